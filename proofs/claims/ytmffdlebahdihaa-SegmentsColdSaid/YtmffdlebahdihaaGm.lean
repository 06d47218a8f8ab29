import Derived.Test.YtmffdlebahdihaaGl
/- The walk of chapter 13's SegmentsVictims. -/
namespace Go.Proofs.Ytmffdlebahdihaa.Seg
open Go Go.RowKit Go.Proofs.Ytmffdlebahdihaa.Mem Go.Proofs.Ytmffdlebahdihaa.CodecPure Go.Proofs.Ytmffdlebahdihaa.ArenaPure Go.Proofs.Ytmffdlebahdihaa.Codec Go.Proofs.Ytmffdlebahdihaa.Arena Go.Proofs.Ytmffdlebahdihaa.Item Go.Proofs.Ytmffdlebahdihaa.Links
set_option linter.unusedVariables false
set_option maxRecDepth 100000
variable {B : Nat} {w0 w w' : World} {a : Ar} {L : Nat → List Nat} {F : Nat → Int → Int} {k : Nat} {l : Lh}
theorem vict_held (F : Nat → Int → Int) (S : List Nat) : ∀ (A : List Nat) (t : Nat) (e : Int), (∀ x ∈ A, F x 11 ≠ 0) → t + A.length ≤ 5 → vict F (A ++ S) t e = vict F S (t + A.length) (if A = [] then e else 8)
  | [], t, e, _, _ => rfl
  | k :: A, t, e, hA, ht => by
    have h1 : ¬ t ≥ 5 := by rw [List.length_cons] at ht; omega
    show (if t ≥ 5 then (0, e) else if F k 11 = 0 then (64 * (k : Int), 0) else vict F (A ++ S) (t + 1) 8) = _
    rw [if_neg h1, if_neg (hA k (by simp)), vict_held F S A (t + 1) 8 (fun x hx => hA x (by simp [hx])) (by rw [List.length_cons] at ht; omega), List.length_cons, show t + 1 + A.length = t + (A.length + 1) by omega]
    rw [if_neg (show ¬ (k :: A) = [] by simp)]
    split <;> rfl
theorem first_free (F : Nat → Int → Int) : ∀ S : List Nat, (∃ A k C, S = A ++ k :: C ∧ (∀ x ∈ A, F x 11 ≠ 0) ∧ F k 11 = 0) ∨ ∀ x ∈ S, F x 11 ≠ 0
  | [] => .inr fun x hx => by simp at hx
  | k :: S => by
    by_cases h : F k 11 = 0
    · exact .inl ⟨[], k, S, rfl, fun x hx => by simp at hx, h⟩
    · rcases first_free F S with ⟨A, j, C, e, h1, h2⟩ | h1
      · exact .inl ⟨k :: A, j, C, by rw [e]; rfl, fun x hx => by
          rcases List.mem_cons.1 hx with rfl | hx
          · exact h
          · exact h1 x hx, h2⟩
      · exact .inr fun x hx => by
          rcases List.mem_cons.1 hx with rfl | hx
          · exact h
          · exact h1 x hx
theorem nodup_sub : ∀ (l m : List Nat), l.Nodup → (∀ x ∈ l, x ∈ m) → l.length ≤ m.length
  | [], m, _, _ => Nat.zero_le _
  | x :: l, m, hn, hs => by
    have h1 := nodup_sub l (m.erase x) (List.nodup_cons.1 hn).2 fun y hy => (List.mem_erase_of_ne fun e => (List.nodup_cons.1 hn).1 (by rw [← e]; exact hy)).2 (hs y (by simp [hy]))
    have hm := hs x (by simp)
    have h2 := List.length_erase_of_mem hm
    have h3 := List.length_pos_of_mem hm
    rw [List.length_cons]
    omega
theorem line_mem (x : Nat) : x ∈ line L ↔ ∃ i, i < 3 ∧ x ∈ L i := by
  unfold line
  simp only [List.mem_append, List.mem_reverse]
  constructor
  · rintro (h | h | h)
    · exact ⟨2, by decide, h⟩
    · exact ⟨1, by decide, h⟩
    · exact ⟨0, by decide, h⟩
  · rintro ⟨i, hi, h⟩
    rcases (show i = 0 ∨ i = 1 ∨ i = 2 by omega) with rfl | rfl | rfl
    · exact .inr (.inr h)
    · exact .inr (.inl h)
    · exact .inl h
theorem line_nodup (h : SI L F) : (line L).Nodup := by
  have rv : ∀ l : List Nat, l.Nodup → l.reverse.Nodup := fun l hl => (List.reverse_perm l).nodup_iff.2 hl
  unfold line
  refine List.nodup_append.2 ⟨rv _ (h.nd 2 (by decide)), List.nodup_append.2 ⟨rv _ (h.nd 1 (by decide)), rv _ (h.nd 0 (by decide)), fun x hx y hy e => ?_⟩, fun x hx y hy e => ?_⟩
  · subst e
    exact h.dis 1 0 (by decide) (by decide) (by decide) x (List.mem_reverse.1 hx) (List.mem_reverse.1 hy)
  · subst e
    rcases List.mem_append.1 hy with hy | hy
    · exact h.dis 2 1 (by decide) (by decide) (by decide) x (List.mem_reverse.1 hx) (List.mem_reverse.1 hy)
    · exact h.dis 2 0 (by decide) (by decide) (by decide) x (List.mem_reverse.1 hx) (List.mem_reverse.1 hy)
theorem line_len (L : Nat → List Nat) : (line L).length = cnt L := by
  unfold line cnt
  simp only [List.length_append, List.length_reverse]
  omega
/-- the items that are held -/
def Hd (F : Nat → Int → Int) (H : List Nat) : Prop := ∀ x, x < 30 → (F x 11 ≠ 0 ↔ x ∈ H)
/-- who goes first where at most four are held -/
theorem vict_cases (h : SI L F) {H : List Nat} (hH : Hd F H) (h4 : H.length ≤ 4) : (∃ f k, f < 3 ∧ k ∈ L f ∧ F k 11 = 0 ∧ vict F (line L) 0 3 = (64 * (k : Int), 0) ∧ ∀ i, f < i → i < 3 → ∀ x ∈ L i, F x 11 ≠ 0) ∨
    (vict F (line L) 0 3 = (0, if cnt L = 0 then 3 else 8) ∧ cnt L ≤ H.length) := by
  have ln := line_nodup h
  have bound : ∀ A S : List Nat, line L = A ++ S → (∀ x ∈ A, F x 11 ≠ 0) → A.length ≤ H.length := fun A S e hA => by
    refine nodup_sub A H ?_ fun x hx => ?_
    · rw [e] at ln
      exact (List.nodup_append.1 ln).1
    · obtain ⟨i, hi, hx2⟩ := (line_mem x).1 (by rw [e]; simp [hx])
      exact (hH x (h.lt i hi x hx2)).1 (hA x hx)
  have done : ∀ A k C, line L = A ++ k :: C → (∀ x ∈ A, F x 11 ≠ 0) → F k 11 = 0 → vict F (line L) 0 3 = (64 * (k : Int), 0) := fun A k C e hA hk => by
    have := bound A _ e hA
    rw [e, vict_held F _ A 0 3 hA (by omega)]
    show (if 0 + A.length ≥ 5 then _ else if F k 11 = 0 then _ else _) = _
    rw [if_neg (by omega), if_pos hk]
  have rm : ∀ i, (∀ x ∈ (L i).reverse, F x 11 ≠ 0) → ∀ x ∈ L i, F x 11 ≠ 0 := fun i q x hx => q x (List.mem_reverse.2 hx)
  rcases first_free F (L 2).reverse with ⟨A, k, C, e, h1, h2⟩ | a2
  · exact .inl ⟨2, k, by decide, by rw [← List.mem_reverse, e]; simp, h2, done A k (C ++ ((L 1).reverse ++ (L 0).reverse)) (by unfold line; rw [e]; simp) h1 h2, fun i h3 h4 => by omega⟩
  · rcases first_free F (L 1).reverse with ⟨A, k, C, e, h1, h2⟩ | a1
    · exact .inl ⟨1, k, by decide, by rw [← List.mem_reverse, e]; simp, h2, done ((L 2).reverse ++ A) k (C ++ (L 0).reverse) (by unfold line; rw [e]; simp) (fun x hx => by
        rcases List.mem_append.1 hx with hx | hx
        · exact a2 x hx
        · exact h1 x hx) h2, fun i h3 h4 => by
          obtain rfl : i = 2 := by omega
          exact rm 2 a2⟩
    · rcases first_free F (L 0).reverse with ⟨A, k, C, e, h1, h2⟩ | a0
      · exact .inl ⟨0, k, by decide, by rw [← List.mem_reverse, e]; simp, h2, done ((L 2).reverse ++ ((L 1).reverse ++ A)) k C (by unfold line; rw [e]; simp) (fun x hx => by
          rcases List.mem_append.1 hx with hx | hx
          · exact a2 x hx
          · rcases List.mem_append.1 hx with hx | hx
            · exact a1 x hx
            · exact h1 x hx) h2, fun i h3 h4 => by
            rcases (show i = 1 ∨ i = 2 by omega) with rfl | rfl
            · exact rm 1 a1
            · exact rm 2 a2⟩
      · right
        have all : ∀ x ∈ line L, F x 11 ≠ 0 := fun x hx => by
          unfold line at hx
          rcases List.mem_append.1 hx with hx | hx
          · exact a2 x hx
          · rcases List.mem_append.1 hx with hx | hx
            · exact a1 x hx
            · exact a0 x hx
        have hb := bound (line L) [] (List.append_nil _).symm all
        rw [line_len] at hb
        refine ⟨?_, hb⟩
        have e0 := vict_held F [] (line L) 0 3 all (by rw [line_len]; omega)
        rw [List.append_nil] at e0
        rw [e0]
        show ((0 : Int), _) = _
        have : (line L = []) ↔ cnt L = 0 := by rw [← line_len]; exact List.length_eq_zero_iff.symm
        simp only [this]
theorem SE.hold (q : SE B w0 w a l L F) (hk : k < 30) : Calls Try.prog 38 #[(.pointer (some ⟨a.g, 0, none⟩)), (.int .i64 (64 * (k : Int))), (.int .i64 11), (.int .i64 1)] w fun e w' => e = .returned (.int .i64 0) ∧ SE B w0 w' a l L (updF F k 11 1) := by
  obtain ⟨s, h⟩ := q.ex
  exact (h.set hk (f := 11) (v := 1) (.inr (.inr rfl)) (by decide)).mono fun e w' ⟨e1, e2, e3⟩ => ⟨e1, (q.next (q := (L, updF F k 11 1)) e1 e2 (q.si.hold hk (by decide)) e3).2.1⟩
theorem hd_old {H : List Nat} (h : Hd F H) (hk : k < 30) (hm : k ∈ H) : Hd (updF F k 11 1) H := fun x hx => by
  by_cases e : x = k
  · subst e; rw [updF_at]; exact ⟨fun _ => hm, fun _ => by decide⟩
  · rw [updF_ne _ _ (.inl e)]; exact h x hx
theorem hd_new {H : List Nat} (h : Hd F H) (hk : k < 30) : Hd (updF F k 11 1) (k :: H) := fun x hx => by
  by_cases e : x = k
  · subst e; rw [updF_at]; exact ⟨fun _ => by simp, fun _ => by decide⟩
  · rw [updF_ne _ _ (.inl e), h x hx]
    simp [e]
theorem hd_drop {H : List Nat} (h : Hd F H) : Hd (dropS L F k).2 H := fun x hx => by rw [dropS_ref]; exact h x hx
theorem drop_cnt (h : SI L F) {f : Nat} (hf : f < 3) (hm : k ∈ L f) : cnt (dropS L F k).1 + 1 = cnt L ∧ (∀ i, i < 3 → ∀ x ∈ (dropS L F k).1 i, x ∈ L i) ∧ dropE L k = 0 := by
  have hs := sg_some hf hm
  have e := h.sg_eq hf hm
  unfold dropS dropE
  rw [if_pos hs, if_pos hs, e]
  refine ⟨?_, fun i hi x hx => drop_mem hx, rfl⟩
  have hl := List.length_erase_of_mem hm
  have hp := List.length_pos_of_mem hm
  unfold cnt updL3
  rcases (show f = 0 ∨ f = 1 ∨ f = 2 by omega) with rfl | rfl | rfl <;> simp <;> omega
set_option maxHeartbeats 4000000 in
theorem victs_walk (A : Option Addr) (c : Nat) (l : List (List Int)) (A' : Option Addr) (c' : Nat) (l' : List Int) (w : World) (hl : SRow w [.i64, .i64, .i64, .i64] A c l) (hl' : RowOf w .i64 A' c' l' 8) :
    Calls Try.prog 10 #[.slice A l.length c, .slice A' l'.length c'] w fun e w' => e = .returned (.bool true) ∧ Below w.heap.size w w' := by
  have DC := Lib.hid (fun W (h : Chg (fun _ => False) w W) => done_calls w A c l W hl h)
  have hlm' : l'.length ≤ 9223372036854775807 := Nat.le_trans hl'.cap hl'.most
  replace hl' := Lib.hid hl'
  obtain ⟨ln', hn'⟩ : ∃ n, l'.length = n := ⟨_, rfl⟩
  rw [hn'] at hlm' ⊢
  replace hn' := Lib.hid hn'
  go_enter Try.func10, Try.ntmps10
  go_wp2_with fail
  refine (works13_calls w).mono ?_
  rintro e wa ⟨rfl, hc⟩
  have CW := Lib.hid hc
  have D2 := Lib.hid (DC.out _ hc)
  clear hc DC hl
  go_wp2_with fail
  refine D2.out.mono ?_
  rintro e w1 ⟨lh, a, rfl, L, F, K, K0⟩
  have CBW : Hid (∀ W, Chg (fun b => wa.heap.size ≤ b) wa W → Below w.heap.size w W) := fun W hc => ((CW.out.mono fun _ _ h => h.elim).trans (hc.mono fun b _ hb => Nat.le_trans CW.out.size hb)).below (Nat.le_refl _) fun _ h => h
  have CCW : Hid (∀ W, Chg (fun b => wa.heap.size ≤ b) wa W → Chg (fun b => w.heap.size ≤ b) w W) := fun W hc => (CW.out.mono fun _ _ h => h.elim).trans (hc.mono fun b _ hb => Nat.le_trans CW.out.size hb)
  have H0 : Hid (Hd F []) := fun x hx => by rw [K0 x hx]; simp
  have l30 : Hid (∀ i, i < 3 → (L i).length ≤ 30) := fun i hi => K.len30 hi
  replace K := Lib.hid K
  clear D2 K0
  go_wp2_with fail
  go_loopg [7, 8] 4 (fun q n i wr => ∃ (k : Nat) (H : List Nat) (F : Nat → Int → Int), n = .int .i64 H.length ∧ i = .int .i64 k ∧ q = 4 - k ∧ k ≤ 4 ∧ k ≤ ln' ∧ H.length ≤ k ∧ Hid (Hd F H) ∧ Hid (SE wa.heap.size wa wr a lh L F))
  case atStart => exact ⟨0, [], F, rfl, rfl, rfl, by omega, by omega, Nat.le_refl _, H0.out, K.out⟩
  case round =>
    clear K H0
    obtain ⟨k, H, F, rfl, rfl, hg, hk, hkn, hHk, HH, K⟩ := hrel
    replace hg := Lib.hid hg
    by_cases hlt : k < ln' ∧ k < 4
    · obtain ⟨h1, h2⟩ := hlt
      have h1' : (k : Int) < ln' := by omega
      have h2' : (k : Int) < 4 := by omega
      obtain ⟨ad, rfl, cj⟩ := hl'.out.sl k (by rw [hn'.out]; exact h1)
      have cj2 := (CCW.out _ K.out.chg).cell cj (by have := World.block_lt_of_cell? w _ cj; omega)
      clear cj
      generalize l'.getD k 0 = x1 at cj2
      obtain ⟨kk, hkk, q1, -⟩ := small x1 30 (by decide)
      have PC : Hid (∀ W, Calls Try.prog 29 #[(.int .i64 x1)] W fun e w' => e = .returned ((.int .i64 (64 * (kk : Int)))) ∧ w' = W) := fun W => place10_calls x1 W kk hkk q1
      have GT := K.out.getF hkk (f := 11) (.inr (.inr rfl))
      have ST : Hid (∀ W, Chg (fun _ => False) wr W → Calls Try.prog 38 #[(.pointer (some ⟨a.g, 0, none⟩)), (.int .i64 (64 * (kk : Int))), (.int .i64 11), (.int .i64 1)] W fun e w' => e = .returned (.int .i64 0) ∧ SE wa.heap.size wa w' a lh L (updF F kk 11 1)) := fun W h => (K.out.fresh h).hold hkk
      clear q1
      by_cases hm : kk ∈ H
      · have nz := (HH.out kk hkk).2 hm
        have nb : (F kk 11 == 0) = false := by rw [beq_eq_false_iff_ne]; exact nz
        have HN := Lib.hid (hd_old HH.out hkk hm)
        replace GT := Lib.hid GT
        generalize updF F kk 11 1 = F2 at ST HN
        generalize F kk 11 = rf at GT nz nb
        clear K HH hm
        go_wp2_with fail
        refine (PC.out _).mono ?_
        rintro e wq ⟨rfl, rfl⟩
        go_wp2_with fail
        refine GT.out.mono ?_
        rintro e w3 ⟨rfl, hc⟩
        have S3 := Lib.hid (ST.out _ hc)
        clear hc GT ST PC
        go_wp2_with fail
        refine S3.out.mono ?_
        rintro e w4 ⟨rfl, h4⟩
        replace h4 := Lib.hid h4
        clear S3 cj2
        go_wp2_with fail
        go_roundg (4 - (k + 1))
        case measure => have := hg.out; omega
        case rel => exact ⟨k + 1, H, F2, rfl, rfl, rfl, by omega, by omega, by omega, HN.out, h4.out⟩
      · have nz : F kk 11 = 0 := Classical.byContradiction fun q => hm ((HH.out kk hkk).1 q)
        rw [nz] at GT
        have HN := Lib.hid (hd_new HH.out hkk)
        replace GT := Lib.hid GT
        generalize updF F kk 11 1 = F2 at ST HN
        clear K HH hm nz
        go_wp2_with fail
        refine (PC.out _).mono ?_
        rintro e wq ⟨rfl, rfl⟩
        go_wp2_with fail
        refine GT.out.mono ?_
        rintro e w3 ⟨rfl, hc⟩
        have S3 := Lib.hid (ST.out _ hc)
        clear hc GT ST PC
        go_wp2_with fail
        refine S3.out.mono ?_
        rintro e w4 ⟨rfl, h4⟩
        replace h4 := Lib.hid h4
        clear S3 cj2
        go_wp2_with fail
        go_roundg (4 - (k + 1))
        case measure => have := hg.out; omega
        case rel => exact ⟨k + 1, kk :: H, F2, by rw [List.length_cons, Int.natCast_add]; rfl, rfl, rfl, by omega, by omega, by rw [List.length_cons]; omega, HN.out, h4.out⟩
    · have hend : ((ln' : Int) ≤ k) ∨ ((k : Int) < ln' ∧ ¬ (k : Int) < 4) := by omega
      have CT := Lib.hid K.out.counts
      have m0 := l30.out 0 (by decide)
      have m1 := l30.out 1 (by decide)
      have m2 := l30.out 2 (by decide)
      have ec : cnt L = (L 0).length + (L 1).length + (L 2).length := rfl
      obtain ⟨T, hT⟩ : ∃ T, cnt L = T := ⟨_, rfl⟩
      rw [hT] at ec
      generalize (L 0).length = n0 at *
      generalize (L 1).length = n1 at *
      generalize (L 2).length = n2 at *
      have es : (n0 : Int) + (n1 : Int) + (n2 : Int) = (T : Int) := by omega
      have T90 : T ≤ 90 := by omega
      have H4 : H.length ≤ 4 := by omega
      obtain ⟨hN, hNe⟩ : ∃ hN, H.length = hN := ⟨_, rfl⟩
      rw [hNe] at H4 ⊢
      replace hNe := Lib.hid hNe
      replace hT := Lib.hid hT
      clear hHk m0 m1 m2 ec
      rcases hend with h1' | ⟨h1', h2'⟩
      all_goals
        (go_wp2_with fail
         refine CT.out.mono ?_
         rintro e w3 ⟨rfl, hd⟩
         have K3 := Lib.hid (K.out.fresh (hd.chg _))
         clear hd CT K
         go_wp2_with fail
         go_loopg [15, 16] (T + 1) (fun q s i wr => ∃ (sv j : Nat) (L : Nat → List Nat) (F : Nat → Int → Int), s = .int .i64 sv ∧ i = .int .i64 j ∧ q = T + 1 - j ∧ j ≤ T ∧ sv ≤ 2 ∧ Hid (cnt L + j = T) ∧ Hid (Hd F H) ∧ Hid (∀ i, sv < i → i < 3 → ∀ x ∈ L i, F x 11 ≠ 0) ∧ Hid (SE wa.heap.size wa wr a lh L F))
         case atStart => exact ⟨2, 0, L, F, rfl, rfl, rfl, by omega, by omega, hT.out, HH.out, (fun i h1 h2 => by omega), K3.out⟩
         case round =>
           clear K3 HH hT l30 hg
           obtain ⟨sv, j, L, F, rfl, rfl, hg, hj, hsv, hc, HH, HI, K⟩ := hrel
           replace hg := Lib.hid hg
           have hj' : (j : Int) ≤ (T : Int) := by omega
           have VC := K.out.vicC
           rcases vict_cases K.out.si HH.out (by rw [hNe.out]; exact H4) with ⟨f, x, hf, hx, h0, hv, hr⟩ | ⟨hv, hb⟩
           · have hx30 := K.out.si.lt f hf x hx
             rw [hv] at VC
             have fs : f ≤ sv := Nat.le_of_not_lt fun q => HI.out f q hf x hx h0
             have G11 : Hid (∀ W, Chg (fun _ => False) wr W → Calls Try.prog 31 #[(.pointer (some ⟨a.g, 0, none⟩)), (.int .i64 (64 * (x : Int))), (.int .i64 11)] W (Ans2 W 0 0)) := fun W h => by have := (K.out.fresh h).getF hx30 (f := 11) (.inr (.inr rfl)); rw [h0] at this; exact this
             have G9 : Hid (∀ W, Chg (fun _ => False) wr W → Calls Try.prog 31 #[(.pointer (some ⟨a.g, 0, none⟩)), (.int .i64 (64 * (x : Int))), (.int .i64 9)] W (Ans2 W (f : Int) 0)) := fun W h => by have := (K.out.fresh h).getF hx30 (f := 9) (.inl rfl); rw [K.out.si.seg f hf x hx] at this; exact this
             obtain ⟨d1, d2, d3⟩ := drop_cnt K.out.si hf hx
             have DR : Hid (∀ W, Chg (fun _ => False) wr W → Calls Try.prog 40 #[(.pointer (some ⟨lh.b, 0, none⟩)), (.int .i64 (64 * (x : Int)))] W (SEnd wa.heap.size wa W a lh (dropS L F x) (.int .i64 0))) := fun W h => by have := (K.out.fresh h).dropC hx30; rw [d3] at this; exact this
             have HH2 := Lib.hid (hd_drop (L := L) (k := x) HH.out)
             have HI2 : Hid (∀ i, f < i → i < 3 → ∀ y ∈ (dropS L F x).1 i, (dropS L F x).2 y 11 ≠ 0) := fun i h1 h2 y hy => by rw [dropS_ref]; exact hr i h1 h2 y (d2 i h2 y hy)
             have cj : Hid (cnt (dropS L F x).1 + (j + 1) = T) := by have := hc.out; show _ = _; omega
             have fi : ¬ (f : Int) > (sv : Int) := by omega
             have jT : j + 1 ≤ T := by have := cj.out; omega
             generalize dropS L F x = q2 at DR HH2 HI2 cj
             replace VC := Lib.hid VC
             clear d1 d2 d3 hr hv h0 hx HI HH K hc
             go_wp2_with fail
             refine VC.out.mono ?_
             rintro e w4 ⟨rfl, hc4⟩
             have GG := Lib.hid (G11.out _ hc4)
             replace hc4 := Lib.hid hc4
             clear VC G11
             go_wp2_with fail
             refine GG.out.mono ?_
             rintro e w5 ⟨rfl, hc5⟩
             have C5 := Lib.hid (hc4.out.trans hc5)
             have G9' := Lib.hid (G9.out _ C5.out)
             clear GG G9 hc5 hc4
             go_wp2_with fail
             refine G9'.out.mono ?_
             rintro e w6 ⟨rfl, hc6⟩
             have DD := Lib.hid (DR.out _ (C5.out.trans hc6))
             clear G9' DR hc6 C5
             go_wp2_with fail
             refine DD.out.mono ?_
             rintro e w7 ⟨rfl, h7, -⟩
             replace h7 := Lib.hid h7
             clear DD
             go_wp2_with fail
             go_roundg (T + 1 - (j + 1))
             case measure => have := hg.out; omega
             case rel => exact ⟨f, j + 1, _, _, rfl, rfl, rfl, jT, by omega, cj.out, HH2.out, HI2.out, h7.out⟩
           · rw [hv] at VC
             have ec : cnt L = (L 0).length + (L 1).length + (L 2).length := rfl
             have CT : Hid (∀ W, Chg (fun _ => False) wr W → Calls Try.prog 32 #[(.pointer (some ⟨lh.b, 0, none⟩))] W fun e w' => e = .returned (.tuple #[.int .i64 (L 0).length, .int .i64 (L 1).length, .int .i64 (L 2).length]) ∧ Dr W w') := fun W h => (K.out.fresh h).counts
             have FF : Hid (∀ W, Chg (fun _ => False) wr W → Below w.heap.size w W) := fun W h => CBW.out _ (K.out.fresh h).chg
             have m0 := K.out.len30 (i := 0) (by decide)
             have m1 := K.out.len30 (i := 1) (by decide)
             have m2 := K.out.len30 (i := 2) (by decide)
             rw [hNe.out] at hb
             generalize cnt L = C at *
             generalize (L 0).length = n0' at *
             generalize (L 1).length = n1' at *
             generalize (L 2).length = n2' at *
             have es2 : (n0' : Int) + (n1' : Int) + (n2' : Int) = (C : Int) := by omega
             have hb' : (C : Int) ≤ (hN : Int) := by omega
             clear HI HH K hc ec
             by_cases hC : C = 0
             · rw [if_pos hC] at VC
               subst hC
               replace VC := Lib.hid VC
               clear hv hb
               go_wp2_with fail
               refine VC.out.mono ?_
               rintro e w4 ⟨rfl, hc4⟩
               have C4 := Lib.hid (CT.out _ hc4)
               replace hc4 := Lib.hid hc4
               clear VC CT
               go_wp2_with fail
               refine C4.out.mono ?_
               rintro e w5 ⟨rfl, hd⟩
               have F5 := Lib.hid (FF.out _ (hc4.out.trans (hd.chg _)))
               clear C4 hd
               go_wp2_with fail
               go_ret
               exact ⟨by simp, F5.out⟩
             · rw [if_neg hC] at VC
               have hC2 : ¬ (C : Int) = 0 := by omega
               have hC3 : ((C : Int) == 0) = false := by rw [beq_eq_false_iff_ne]; exact hC2
               have hC4 : (0 : Int) < (C : Int) := by omega
               replace VC := Lib.hid VC
               clear hv hb hC
               go_wp2_with fail
               refine VC.out.mono ?_
               rintro e w4 ⟨rfl, hc4⟩
               have C4 := Lib.hid (CT.out _ hc4)
               replace hc4 := Lib.hid hc4
               clear VC CT
               go_wp2_with fail
               refine C4.out.mono ?_
               rintro e w5 ⟨rfl, hd⟩
               have F5 := Lib.hid (FF.out _ (hc4.out.trans (hd.chg _)))
               clear C4 hd
               go_wp2_with fail
               go_ret
               exact ⟨by simp; omega, F5.out⟩)
end Go.Proofs.Ytmffdlebahdihaa.Seg

