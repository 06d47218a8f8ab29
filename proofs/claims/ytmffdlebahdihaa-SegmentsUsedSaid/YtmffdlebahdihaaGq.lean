import Derived.Test.YtmffdlebahdihaaGl
import Derived.Test.YtmffdlebahdihaaGc
/- The walk of chapter 13's SegmentsUsed. -/
namespace Go.Proofs.Ytmffdlebahdihaa.Seg
open Go Go.RowKit Go.Proofs.Ytmffdlebahdihaa.Mem Go.Proofs.Ytmffdlebahdihaa.CodecPure Go.Proofs.Ytmffdlebahdihaa.ArenaPure Go.Proofs.Ytmffdlebahdihaa.Codec Go.Proofs.Ytmffdlebahdihaa.Arena Go.Proofs.Ytmffdlebahdihaa.Item Go.Proofs.Ytmffdlebahdihaa.Links
set_option linter.unusedVariables false
set_option maxRecDepth 100000
variable {B : Nat} {w0 w w' : World} {a : Ar} {L : Nat → List Nat} {F : Nat → Int → Int} {k m n : Nat} {l : Lh}
/-- m + d - 1 down to m -/
def dnl (m : Nat) : Nat → List Nat
  | 0 => []
  | d + 1 => (m + d) :: dnl m d
theorem dnl_len (m : Nat) : ∀ d, (dnl m d).length = d
  | 0 => rfl
  | d + 1 => by show (dnl m d).length + 1 = _; rw [dnl_len m d]
theorem dnl_last (m : Nat) : ∀ d, dnl m (d + 1) = dnl (m + 1) d ++ [m]
  | 0 => rfl
  | d + 1 => by
    show (m + (d + 1)) :: dnl m (d + 1) = ((m + 1 + d) :: dnl (m + 1) d) ++ [m]
    rw [dnl_last m d, show m + (d + 1) = m + 1 + d by omega]; rfl
theorem dnl_mem {m x : Nat} : ∀ {d}, x ∈ dnl m d ↔ m ≤ x ∧ x < m + d
  | 0 => ⟨fun h => (by cases h), fun h => by omega⟩
  | d + 1 => by
    show x ∈ (m + d) :: dnl m d ↔ _
    rw [List.mem_cons, dnl_mem]
    omega
/-- an item's marks behind t uses -/
def bb (t : Int) : Int := if t = 0 then 1 else if t = 1 then 3 else 7
theorem bb_next {t : Int} (h : 0 ≤ t) : bumpB (bb t) = bb (t + 1) := by
  unfold bb
  by_cases h0 : t = 0
  · subst h0; decide
  · by_cases h1 : t = 1
    · subst h1; decide
    · rw [if_neg h0, if_neg h1, if_neg (by omega), if_neg (by omega)]; decide
theorem bb_ge {t : Int} (h : 0 ≤ t) : bb t ≥ 4 ↔ t ≥ 2 := by
  unfold bb
  by_cases h0 : t = 0
  · subst h0; decide
  · by_cases h1 : t = 1
    · subst h1; decide
    · rw [if_neg h0, if_neg h1]; omega
/-- while items are added -/
structure UA (L : Nat → List Nat) (F : Nat → Int → Int) (k : Nat) : Prop where
  hot : L 0 = dnl 0 k
  one : L 1 = []
  two : L 2 = []
  bit : ∀ x, x < k → F x 10 = 1
theorem ua_none : UA (fun _ => []) (fun _ _ => 0) 0 := ⟨rfl, rfl, rfl, fun x hx => by omega⟩
theorem UA.add (h : UA L F k) : UA (addS L F k).1 (addS L F k).2 (k + 1) := by
  have ns : ¬ sg L k < 3 := by
    rw [sg_none fun j hj => ?_]
    · omega
    · intro q
      rcases (show j = 0 ∨ j = 1 ∨ j = 2 by omega) with rfl | rfl | rfl
      · rw [h.hot, dnl_mem] at q; omega
      · rw [h.one] at q; cases q
      · rw [h.two] at q; cases q
  have e : addS L F k = (updL3 L 0 (k :: L 0), updF (updF F k 9 0) k 10 1) := by unfold addS; rw [if_neg ns]
  rw [e]
  refine ⟨?_, ?_, ?_, fun x hx => ?_⟩
  · show updL3 L 0 (k :: L 0) 0 = _
    rw [updL3_at, h.hot]
    show k :: dnl 0 k = (0 + k) :: dnl 0 k
    rw [Nat.zero_add]
  · show updL3 L 0 (k :: L 0) 1 = _
    rw [updL3_ne _ _ (by decide)]; exact h.one
  · show updL3 L 0 (k :: L 0) 2 = _
    rw [updL3_ne _ _ (by decide)]; exact h.two
  · show updF (updF F k 9 0) k 10 1 x 10 = 1
    by_cases ex : x = k
    · subst ex; exact updF_at _ _ _ _
    · rw [updF_ne _ _ (.inl ex), updF_ne _ _ (.inl ex)]
      exact h.bit x (by omega)
/-- the items m .. n-1 in Hot, used t times each -/
structure UI (L : Nat → List Nat) (F : Nat → Int → Int) (n m : Nat) (t : List Int) : Prop where
  hot : L 0 = dnl m (n - m)
  num : cnt L = n
  bit : ∀ x, m ≤ x → x < n → F x 10 = bb (t.getD x 0)
  pos : ∀ x, 0 ≤ t.getD x 0
theorem rep0 (n x : Nat) : (List.replicate n (0 : Int)).getD x 0 = 0 := by
  rw [List.getD_eq_getElem?_getD, List.getElem?_replicate]; split <;> rfl
theorem UA.ui (h : UA L F n) : UI L F n 0 (List.replicate n 0) := by
  refine ⟨h.hot, ?_, fun x _ hx => ?_, fun x => ?_⟩
  · unfold cnt; rw [h.hot, h.one, h.two, dnl_len]; rfl
  · rw [h.bit x hx, rep0]; rfl
  · rw [rep0]; exact Int.le_refl _
theorem set_getD (t : List Int) {k : Nat} (hk : k < t.length) (v : Int) (x : Nat) : (t.set k v).getD x 0 = if x = k then v else t.getD x 0 := by
  rw [List.getD_eq_getElem?_getD, List.getElem?_set]
  by_cases e : x = k
  · subst e; rw [if_pos rfl, if_pos rfl, if_pos hk]; rfl
  · rw [if_neg (Ne.symm e), if_neg e, List.getD_eq_getElem?_getD]
theorem UI.bump {t : List Int} (h : UI L F n 0 t) (hk : k < n) (hl : t.length = n) : (bumpS L F k).1 = L ∧ UI L (bumpS L F k).2 n 0 (t.set k (t.getD k 0 + 1)) := by
  have hs : sg L k < 3 := sg_some (i := 0) (by decide) (by rw [h.hot, dnl_mem]; omega)
  have e : bumpS L F k = (L, updF F k 10 (bumpB (F k 10))) := by unfold bumpS; rw [if_pos hs]
  have hp := h.pos k
  rw [e]
  refine ⟨rfl, h.hot, h.num, fun x h0 hx => ?_, fun x => ?_⟩
  · show updF F k 10 _ x 10 = _
    rw [set_getD t (by omega)]
    by_cases ex : x = k
    · subst ex; rw [if_pos rfl, updF_at, h.bit x h0 hx, bb_next hp]
    · rw [if_neg ex, updF_ne _ _ (.inl ex)]; exact h.bit x h0 hx
  · rw [set_getD t (by omega)]
    split
    · omega
    · exact h.pos x
theorem UI.jugU {t : List Int} (h : UI L F n m t) (hs : SI L F) (hm : m < n) (h5 : ¬ 5 * (n - m) ≤ n) : (jug L F).isSome = true ∧ UI (jugS L F).1 (jugS L F).2 n (m + 1) t ∧
    ((jugS L F).1 1).length = (L 1).length + (if t.getD m 0 ≥ 2 then 1 else 0) ∧ ((jugS L F).1 2).length = (L 2).length + (if t.getD m 0 ≥ 2 then 0 else 1) := by
  obtain ⟨d, hd⟩ : ∃ d, n - m = d + 1 := ⟨n - m - 1, by omega⟩
  have e : L 0 = dnl (m + 1) d ++ [m] := by rw [h.hot, hd, dnl_last]
  have el : (L 0).length = n - m := by rw [h.hot, dnl_len]
  have js : jseg L = 0 := by unfold jseg; rw [if_pos (by rw [h.num]; omega)]
  have b := h.bit m (Nat.le_refl _) hm
  have bg := bb_ge (h.pos m)
  have nd := hs.nd 0 (by decide)
  have er : (L 0).erase m = dnl (m + 1) d := by rw [e] at nd ⊢; exact erase_last nd
  have key : ∀ z : Nat, z = 1 ∨ z = 2 → jug L F = some (goesL L 0 m z, goesF F m z) → UI (jugS L F).1 (jugS L F).2 n (m + 1) t ∧ ((jugS L F).1 1).length = (L 1).length + (if z = 1 then 1 else 0) ∧ ((jugS L F).1 2).length = (L 2).length + (if z = 1 then 0 else 1) := fun z hz q => by
    rw [jugS_some q]
    have c0 : cnt (goesL L 0 m z) = cnt L := goes_cnt (by decide) e er (by omega)
    refine ⟨⟨?_, c0.trans h.num, fun x h1 h2 => ?_, h.pos⟩, ?_, ?_⟩
    · show goesL L 0 m z 0 = _
      rw [goesL_at er, if_neg (by omega), if_pos rfl, show n - (m + 1) = d by omega]
    · show goesF F m z x 10 = _
      rw [goesF_ne (by omega)]
      exact h.bit x (by omega) h2
    · show (goesL L 0 m z 1).length = _
      rw [goesL_at er]
      rcases hz with rfl | rfl <;> rfl
    · show (goesL L 0 m z 2).length = _
      rw [goesL_at er]
      rcases hz with rfl | rfl <;> rfl
  have jj : jug L F = if F m 10 ≥ 4 then some (goesL L 0 m 1, goesF F m 1) else some (goesL L 0 m 2, goesF F m 2) := by
    unfold jug
    rw [js, e]
    have : (dnl (m + 1) d ++ [m]).getLast? = some m := by simp
    rw [this]
    dsimp only
    split
    · rfl
    · rw [if_neg (by decide)]
  by_cases h2 : t.getD m 0 ≥ 2
  · rw [if_pos (by rw [b]; exact bg.2 h2)] at jj
    obtain ⟨k1, k2, k3⟩ := key 1 (.inl rfl) jj
    rw [if_pos h2, if_pos h2]
    exact ⟨by rw [jj]; rfl, k1, k2, k3⟩
  · rw [if_neg (by rw [b]; exact fun q => h2 (bg.1 q))] at jj
    obtain ⟨k1, k2, k3⟩ := key 2 (.inr rfl) jj
    rw [if_neg h2, if_neg h2]
    exact ⟨by rw [jj]; rfl, k1, k2, k3⟩
/-- segments and, beside them, a row of numbers -/
structure UW (B : Nat) (w0 w : World) (a : Ar) (l : Lh) (L : Nat → List Nat) (F : Nat → Int → Int) (o n : Nat) (t : List Int) : Prop where
  se : SE B w0 w a l L F
  own : Mem.Own w B 3 .i64 (.slice (some ⟨o, 0, none⟩) n n) t
  len : t.length = n
  out : o ≠ a.g ∧ o ≠ a.ps ∧ o ≠ l.b ∧ ¬ S2 a l o
  low : B ≤ o
variable {o : Nat} {t : List Int}
theorem UW.act {L' : Nat → List Nat} {F' : Nat → Int → Int} (h : UW B w0 w a l L F o n t) (hs : SE B w0 w' a l L' F') (hc : Chg (S2 a l) w w') : UW B w0 w' a l L' F' o n t :=
  ⟨hs, h.own.chg hc fun g e => by simp [Value.ownBlock] at e; subst e; exact h.out.2.2.2, h.len, h.out, h.low⟩
theorem UW.fresh (h : UW B w0 w a l L F o n t) (hc : Chg (fun _ => False) w w') : UW B w0 w' a l L F o n t :=
  ⟨h.se.fresh hc, h.own.chg hc fun _ _ => id, h.len, h.out, h.low⟩
theorem SE.other (h : SE B w0 w a l L F) (hc : Chg (fun x => x = o) w w') (ho : o ≠ a.g ∧ o ≠ a.ps ∧ o ≠ l.b ∧ ¬ S2 a l o) (lo : B ≤ o) : SE B w0 w' a l L F := by
  obtain ⟨s, k⟩ := h.ex
  have hl := k.lies.chg hc ho.1.symm ho.2.1.symm fun b hb e => ho.2.2.2 (e ▸ .inl hb)
  refine ⟨⟨s, k.sp, fun j hj => q_keep (k.q j hj) hl (k.sp.li j hj) hc (fun e => ho.2.2.2 (e ▸ .inr ⟨j, hj, .inl rfl⟩)) fun e => ho.2.2.2 (e ▸ .inr ⟨j, hj, .inr rfl⟩), hc.keep k.head ho.2.2.1.symm, k.off, k.sep⟩, h.si, h.chg.trans (hc.mono fun x _ e => by rw [e]; exact lo), h.low⟩
theorem UW.store (h : UW B w0 w a l L F o n t) (i : Nat) (hi : i < n) (v : Int) : UW B w0 (w.setCell ⟨o, i, none⟩ (.int .i64 v)) a l L F o n (t.set i v) :=
  ⟨h.se.other (Chg.setCell (S := fun x => x = o) w ⟨o, i, none⟩ _ rfl) h.out h.low, h.own.setc i (by rw [h.len]; exact hi) v, by rw [List.length_set]; exact h.len, h.out, h.low⟩
theorem UW.cell (h : UW B w0 w a l L F o n t) (i : Nat) (hi : i < n) : w.cell? ⟨o, i, none⟩ = some (.int .i64 (t.getD i 0)) ∧ w.frozen? ⟨o, i, none⟩ = false := h.own.cellAt i (by rw [h.len]; exact hi)
theorem UW.start (h : SE B w0 w a l L F) (hB : B ≤ w.heap.size) (n : Nat) (hn : n ≤ 1000000) : UW B w0 (w.alloc (.cells (nums .i64 (List.replicate n 0)).toArray 3)) a l L F w.heap.size n (List.replicate n 0) where
  se := h.fresh (Chg.alloc _ _ _)
  own := by
    have := Mem.Own.lit w 3 .i64 (List.replicate n 0) (by rw [List.length_replicate]; unfold maxLen; omega)
    rw [List.length_replicate] at this
    exact this.mono hB
  len := by rw [List.length_replicate]
  out := by
    obtain ⟨s, k⟩ := h.ex
    have h1 := blk_lt k.lies.head
    have h2 := World.block_lt_of_cell? w _ (k.lies.row 0 k.lies.ok.low)
    have h3 := blk_lt k.head
    refine ⟨by omega, fun e => ?_, by omega, fun hb => ?_⟩
    · rw [← e] at h2; exact Nat.lt_irrefl _ h2
    · have := s2_lt k hb; omega
  low := hB
theorem UW.bump (h : UW B w0 w a l L F o n t) (hk : k < 30) (eL : (bumpS L F k).1 = L) : Calls Try.prog 37 #[(.pointer (some ⟨l.b, 0, none⟩)), (.int .i64 (64 * (k : Int)))] w fun e w' => (∃ v, e = .returned (.int .i64 v)) ∧ UW B w0 w' a l L (bumpS L F k).2 o n t :=
  (h.se.bumpC hk).mono fun e w' ⟨v, h1, h2, h3⟩ => ⟨⟨v, h1⟩, by rw [eL] at h2; exact h.act h2 h3⟩
set_option maxHeartbeats 4000000 in
theorem used_walk (n0 : Int) (A : Option Addr) (c : Nat) (u : List Int) (w : World) (wf0 : (Lit.int .i64 n0).wf = true) (hu : RowOf w .i64 A c u 8) :
    Calls Try.prog 9 #[(.int .i64 n0), .slice A u.length c] w fun e w' => e = .returned (.bool true) ∧ Below w.heap.size w w' := by
  obtain ⟨x0, hx0, xx, -⟩ := small n0 20 (by decide)
  replace xx : (IntKind.u64.wrap n0).tmod 20 = x0 := xx
  obtain ⟨N, hN⟩ : ∃ N : Nat, (2 : Int) + (x0 : Int) = N := ⟨2 + x0, by omega⟩
  have N2 : 2 ≤ N := by omega
  have N21 : N ≤ 21 := by omega
  clear wf0
  have hlm : u.length ≤ 9223372036854775807 := Nat.le_trans hu.cap hu.most
  replace hu := Lib.hid hu
  obtain ⟨ln, hn⟩ : ∃ n, u.length = n := ⟨_, rfl⟩
  rw [hn] at hlm ⊢
  replace hn := Lib.hid hn
  go_enter Try.func9, Try.ntmps9
  go_wp2_with fail
  refine (works13_calls w).mono ?_
  rintro e wa ⟨rfl, hc⟩
  have CW := Lib.hid hc
  clear hc
  go_wp2_with fail
  refine (laid_calls wa).mono ?_
  rintro e w1 ⟨a, r, rfl, T⟩
  replace T := Lib.hid T
  go_wp2_with fail
  refine (SE.start T.out).mono ?_
  rintro e w2 ⟨lh, rfl, K0⟩
  have CBW : Hid (∀ W, Chg (fun b => wa.heap.size ≤ b) wa W → Below w.heap.size w W) := fun W hc => ((CW.out.mono fun _ _ h => h.elim).trans (hc.mono fun b _ hb => Nat.le_trans CW.out.size hb)).below (Nat.le_refl _) fun _ h => h
  have CCW : Hid (∀ W, Chg (fun b => wa.heap.size ≤ b) wa W → Chg (fun b => w.heap.size ≤ b) w W) := fun W hc => (CW.out.mono fun _ _ h => h.elim).trans (hc.mono fun b _ hb => Nat.le_trans CW.out.size hb)
  replace K0 := Lib.hid K0
  clear T xx hx0
  go_wp2_with fail
  clear hN
  go_loopg [9] N (fun q i wr => ∃ (k : Nat) (L : Nat → List Nat) (F : Nat → Int → Int), i = .int .i64 k ∧ q = N - k ∧ k ≤ N ∧ Hid (UA L F k) ∧ Hid (SE wa.heap.size wa wr a lh L F))
  case atStart => exact ⟨0, _, _, rfl, rfl, by omega, ua_none, K0.out⟩
  case round =>
    clear K0
    obtain ⟨k, L, F, rfl, hg, hk, UK, K⟩ := hrel
    replace hg := Lib.hid hg
    by_cases h1 : k < N
    · have h1' : (k : Int) < N := by omega
      have k30 : k < 30 := by omega
      have PC := Lib.hid (place10_calls (k : Int) wr k k30 (small30 k k30))
      have AD := K.out.addC k30
      have UK2 := Lib.hid UK.out.add
      generalize addS L F k = q2 at AD UK2
      generalize addE L k = ae at AD
      replace AD := Lib.hid AD
      clear K UK
      go_wp2_with fail
      refine PC.out.mono ?_
      rintro e w3 ⟨rfl, rfl⟩
      go_wp2_with fail
      refine AD.out.mono ?_
      rintro e w4 ⟨rfl, h4, -⟩
      replace h4 := Lib.hid h4
      clear AD PC
      go_wp2_with fail
      go_roundg (N - (k + 1))
      case measure => have := hg.out; omega
      case rel => exact ⟨k + 1, _, _, rfl, rfl, by omega, UK2.out, h4.out⟩
    · have h1' : ¬ (k : Int) < N := by omega
      obtain rfl : k = N := by omega
      have U0 := Lib.hid UK.out.ui
      have MK := make_ints k (by omega)
      have X0 := Lib.hid (UW.start K.out (by have := K.out.chg.size; omega) k (by omega))
      have wk : IntKind.u64.wrap (k : Int) = (k : Int) := by rw [u64_wrap, Int.emod_eq_of_lt (by omega) (by omega)]
      have z4 : ((k : Int) == 0) = false := by rw [beq_eq_false_iff_ne]; omega
      clear UK h1 hg K
      go_wp2_with fail
      clear MK
      generalize wr.heap.size = o at X0 ⊢
      have T60 : Hid (∀ x, (List.replicate k (0 : Int)).getD x 0 ≤ 0) := fun x => by rw [rep0]; exact Int.le_refl _
      generalize List.replicate k (0 : Int) = T0 at T60 X0 U0 ⊢
      generalize wr.alloc (.cells (nums .i64 T0).toArray 3) = wd at X0 ⊢
      go_loopg [11] 60 (fun q i wr => ∃ (j : Nat) (F : Nat → Int → Int) (t : List Int), i = .int .i64 j ∧ q = 60 - j ∧ j ≤ 60 ∧ j ≤ ln ∧ Hid (∀ x, t.getD x 0 ≤ j) ∧ Hid (UI L F k 0 t) ∧ Hid (UW wa.heap.size wa wr a lh L F o k t))
      case atStart => exact ⟨0, F, T0, rfl, rfl, by omega, by omega, T60.out, U0.out, X0.out⟩
      case round =>
        clear U0 X0 T60
        obtain ⟨j, F, t, rfl, hg, hj, hjl, TB, U, X⟩ := hrel
        replace hg := Lib.hid hg
        by_cases hlt : j < ln ∧ j < 60
        · obtain ⟨h1, h2⟩ := hlt
          have h1' : (j : Int) < ln := by omega
          have h2' : (j : Int) < 60 := by omega
          obtain ⟨ad, rfl, cj⟩ := hu.out.sl j (by rw [hn.out]; exact h1)
          have cj2 := (CCW.out _ X.out.se.chg).cell cj (by have := World.block_lt_of_cell? w _ cj; omega)
          clear cj
          generalize u.getD j 0 = x1 at cj2
          obtain ⟨x, hx, r1, r2⟩ := small x1 k (by omega)
          have x30 : x < 30 := by omega
          have PC := Lib.hid (fun W => place10_calls (x : Int) W x x30 (small30 x x30))
          obtain ⟨cx, fx⟩ := X.out.cell x hx
          have tb := TB.out x
          have tp := U.out.pos x
          obtain ⟨eL, U2⟩ := U.out.bump hx X.out.len
          have X2 := X.out.store x hx (t.getD x 0 + 1)
          have TB2 : Hid (∀ y, (t.set x (t.getD x 0 + 1)).getD y 0 ≤ ((j + 1 : Nat) : Int)) := fun y => by
            rw [set_getD t (by rw [X.out.len]; exact hx)]
            have := TB.out y
            split <;> omega
          have BU := X2.bump x30 eL
          generalize bumpS L F x = q2 at U2 BU
          generalize t.set x (t.getD x 0 + 1) = t2 at U2 BU TB2
          generalize t.getD x 0 = tx at *
          have hx' : (x : Int) < (k : Int) := by omega
          replace BU := Lib.hid BU
          replace U2 := Lib.hid U2
          clear eL X2 X U TB
          go_wp2_with fail
          refine (PC.out _).mono ?_
          rintro e w4 ⟨rfl, rfl⟩
          go_wp2_with fail
          refine BU.out.mono ?_
          rintro e w5 ⟨⟨v, rfl⟩, h5⟩
          replace h5 := Lib.hid h5
          clear BU PC cx fx
          go_wp2_with fail
          go_roundg (60 - (j + 1))
          case measure => have := hg.out; omega
          case rel => exact ⟨j + 1, _, _, rfl, rfl, by omega, by omega, TB2.out, U2.out, h5.out⟩
        · have hend : ((ln : Int) ≤ j) ∨ ((j : Int) < ln ∧ ¬ (j : Int) < 60) := by omega
          have CX : Hid (∀ (q : St3) W, SE wa.heap.size wa W a lh q.1 q.2 → Calls Try.prog 32 #[(.pointer (some ⟨lh.b, 0, none⟩))] W fun e w' => e = .returned (.tuple #[.int .i64 (q.1 0).length, .int .i64 (q.1 1).length, .int .i64 (q.1 2).length]) ∧ Dr W w') := fun q W h => h.counts
          clear TB
          rcases hend with h1' | ⟨h1', h2'⟩
          all_goals
            (go_wp2_with fail
             go_loopg [13] (k + 1) (fun q i wr => ∃ (m : Nat) (L : Nat → List Nat) (F : Nat → Int → Int), i = .int .i64 m ∧ q = k + 1 - m ∧ m ≤ k ∧ Hid (UI L F k m t) ∧ Hid (UW wa.heap.size wa wr a lh L F o k t))
             case atStart => exact ⟨0, L, F, rfl, rfl, by omega, U.out, X.out⟩
             case round =>
               clear U X hg
               obtain ⟨m, L, F, rfl, hg, hm, U, X⟩ := hrel
               replace hg := Lib.hid hg
               by_cases hlt : m < k
               · have hlt' : (m : Int) < (k : Int) := by omega
                 have m30 : m < 30 := by omega
                 have PC := Lib.hid (fun W => place10_calls (m : Int) W m m30 (small30 m m30))
                 have CT := CX.out (L, F) _ X.out.se
                 have CT2 := CX.out (jugS L F)
                 have el : (L 0).length = k - m := by rw [U.out.hot, dnl_len]
                 obtain ⟨b0, hb0⟩ : ∃ b0, (L 0).length = b0 := ⟨_, rfl⟩
                 obtain ⟨b1, hb1⟩ : ∃ b1, (L 1).length = b1 := ⟨_, rfl⟩
                 obtain ⟨b2, hb2⟩ : ∃ b2, (L 2).length = b2 := ⟨_, rfl⟩
                 have m1 := X.out.se.len30 (i := 1) (by decide)
                 have m2 := X.out.se.len30 (i := 2) (by decide)
                 rw [hb0] at el
                 rw [hb1] at m1
                 rw [hb2] at m2
                 simp only [hb0, hb1, hb2] at CT
                 replace CT := Lib.hid CT
                 by_cases h5 : 5 * (k - m) ≤ k
                 · have h5' : (5 : Int) * (b0 : Int) ≤ (k : Int) := by omega
                   have FF : Hid (∀ W, Chg (fun _ => False) wr W → Below w.heap.size w W) := fun W h => CBW.out _ (X.out.se.fresh h).chg
                   clear CT2 U hb0 hb1 hb2 X PC
                   go_wp2_with fail
                   refine CT.out.mono ?_
                   rintro e w4 ⟨rfl, hd⟩
                   have F5 := Lib.hid (FF.out _ (hd.chg _))
                   clear hd CT FF
                   go_wp2_with fail
                   go_ret
                   exact ⟨rfl, F5.out⟩
                 · have h5' : ¬ (5 : Int) * (b0 : Int) ≤ (k : Int) := by omega
                   obtain ⟨j1, j2, j3, j4⟩ := U.out.jugU X.out.se.si hlt h5
                   have JG : Hid (∀ W, SE wa.heap.size wa W a lh L F → Calls Try.prog 33 #[(.pointer (some ⟨lh.b, 0, none⟩))] W (SEnd wa.heap.size wa W a lh (jugS L F) (.bool true))) := fun W h => by have := h.jugC; rw [j1] at this; exact this
                   have LS : Hid (∀ W, SE wa.heap.size wa W a lh L F → Calls Try.prog 30 #[(.pointer (some ⟨lh.b, 0, none⟩)), (.int .i64 0)] W (LEnd W (L 0))) := fun W h => h.list (i := 0) (by decide)
                   unfold LEnd at LS
                   rw [hb0] at LS
                   have AL := at64_len (L 0)
                   obtain ⟨hh, hh1⟩ : ∃ hh, b0 = hh + 1 := ⟨b0 - 1, by omega⟩
                   have gm : (at64 (L 0)).getD hh 0 = 64 * (m : Int) := by
                     rw [at64_getD (L 0) (by omega), U.out.hot, show k - m = hh + 1 by omega, dnl_last, List.getD_eq_getElem?_getD, List.getElem?_append_right (by rw [dnl_len]; exact Nat.le_refl _), dnl_len, Nat.sub_self]
                     rfl
                   rw [hb0] at AL
                   rw [hb1] at j3
                   rw [hb2] at j4
                   have e0 : ((jugS L F).1 0).length = hh := by rw [j2.hot, dnl_len]; omega
                   simp only [e0, j3, j4] at CT2
                   have hhi : (b0 : Int) - 1 = (hh : Int) := by omega
                   have hhi2 : (hh : Int) < (b0 : Int) := by omega
                   have h30 : b0 ≤ 30 := by omega
                   replace el := Lib.hid el
                   replace hh1 := Lib.hid hh1
                   have tc : Hid (∀ W (L' : Nat → List Nat) (F' : Nat → Int → Int), UW wa.heap.size wa W a lh L' F' o k t → W.cell? ⟨o, m, none⟩ = some (.int .i64 (t.getD m 0))) := fun W L' F' h => (h.cell m hlt).1
                   have NO : Hid (∀ W, SE wa.heap.size wa W a lh L F → ∀ x, S2 a lh x → x < W.heap.size) := fun W h => h.s2
                   generalize at64 (L 0) = Q0 at LS AL gm
                   replace AL := Lib.hid AL
                   replace gm := Lib.hid gm
                   replace j2 := Lib.hid j2
                   replace CT2 := Lib.hid CT2
                   clear hb0 hb1 hb2 j1 j3 j4 e0 U
                   obtain ⟨tm, htm⟩ : ∃ tm, t.getD m 0 = tm := ⟨_, rfl⟩
                   rw [htm] at tc CT2
                   clear htm
                   go_wp2_with fail
                   refine CT.out.mono ?_
                   rintro e w4 ⟨rfl, hd⟩
                   have X4 := Lib.hid (X.out.fresh (hd.chg _))
                   have L4 := Lib.hid (LS.out _ X4.out.se)
                   clear hd CT X LS
                   go_wp2_with fail
                   refine L4.out.mono ?_
                   rintro e w5 ⟨A5, c5, rfl, ho, hc⟩
                   have X5 := Lib.hid (X4.out.fresh hc)
                   have NB : Hid (∀ ad, A5 = some ad → ¬ S2 a lh ad.block) := fun ad e q => by
                     subst e
                     have := (World.ownsRow.lt ho ad.block rfl).1
                     have := NO.out _ X4.out.se _ q
                     omega
                   have O5 := ho.sl
                   obtain ⟨ad, e5, cu⟩ := O5 hh (by have := AL.out; have := hh1.out; omega)
                   subst e5
                   rw [gm.out] at cu
                   clear ho hc L4 O5 NO X4
                   have cu2 := Lib.hid cu
                   have nb : Hid (¬ S2 a lh (ad.add hh).block) := fun q => NB.out ad rfl (by rw [add_block] at q; exact q)
                   clear NB
                   have wi1 : IntKind.i64.wrap (hh : Int) = (hh : Int) := IntWalk.i64_in _ (by omega)
                   have wi2 : IntKind.i64.wrap ((b0 : Int) - 1) = (hh : Int) := by rw [IntWalk.i64_in _ (by omega)]; omega
                   have hh0 : (0 : Int) ≤ (hh : Int) := by omega
                   go_wp2_with fail
                   go_region_held3 (fun w' => w'.cell? (ad.add hh) = some (.int .i64 (64 * (m : Int)))) (go_keep)
                    (first
                      | (go_at_call 33; refine (JG.out _ (X5.out.se.fresh (Chg.drew _ _))).mono ?_; rintro e w6 ⟨rfl, h6, c6⟩; have X6 := Lib.hid ((X5.out.fresh (Chg.drew _ _)).act h6 c6); have g6 := c6.cell (show (World.drew w5).cell? _ = _ from cu2.out) nb.out; clear h6 c6; skip)
                      | (go_at_call 29; refine (PC.out _).mono ?_; rintro e w7 ⟨rfl, rfl⟩; skip))
                   clear JG PC cu cu2 g6 nb
                   by_cases h2 : tm ≥ 2
                   · have C6 := CT2.out
                     simp only [if_pos h2, Nat.add_zero, Int.natCast_add, Int.natCast_one] at C6
                     have C7 := Lib.hid (C6 _ X6.out.se)
                     clear C6 CT2
                     have h2' : (2 : Int) ≤ tm := h2
                     have h3' : ¬ tm < 2 := by omega
                     go_wp2_with fail
                     refine C7.out.mono ?_
                     rintro e w7 ⟨rfl, hd⟩
                     have X7 := X6.out.fresh (hd.chg _)
                     have c7 := tc.out _ _ _ X7
                     replace X7 := Lib.hid X7
                     clear hd C7 tc X6
                     go_wp2_with fail
                     go_roundg (k + 1 - (m + 1))
                     case measure => have := hg.out; omega
                     case rel => exact ⟨m + 1, _, _, rfl, rfl, by omega, j2.out, X7.out⟩
                   · have C6 := CT2.out
                     simp only [if_neg h2, Nat.add_zero, Int.natCast_add, Int.natCast_one] at C6
                     have C7 := Lib.hid (C6 _ X6.out.se)
                     clear C6 CT2
                     have h2' : ¬ (2 : Int) ≤ tm := h2
                     have h3' : tm < 2 := by omega
                     go_wp2_with fail
                     refine C7.out.mono ?_
                     rintro e w7 ⟨rfl, hd⟩
                     have X7 := X6.out.fresh (hd.chg _)
                     have c7 := tc.out _ _ _ X7
                     replace X7 := Lib.hid X7
                     clear hd C7 tc X6
                     go_wp2_with fail
                     go_roundg (k + 1 - (m + 1))
                     case measure => have := hg.out; omega
                     case rel => exact ⟨m + 1, _, _, rfl, rfl, by omega, j2.out, X7.out⟩
               · have hlt' : ¬ (m : Int) < (k : Int) := by omega
                 have F5 := Lib.hid (CBW.out _ X.out.se.chg)
                 clear U X
                 go_wp2_with fail
                 go_ret
                 exact ⟨rfl, F5.out⟩)
end Go.Proofs.Ytmffdlebahdihaa.Seg

