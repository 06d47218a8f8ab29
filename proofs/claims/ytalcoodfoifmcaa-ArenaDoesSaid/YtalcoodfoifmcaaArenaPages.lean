/- The walk of the law ArenaPages: it returns true at any number of pages and any acts. -/
import Derived.Test.YtalcoodfoifmcaaArenaEnds
import Derived.Test.YtalcoodfoifmcaaOps
import Derived.Deep.DeepCutAuto
import Derived.Deep.LoopGhost
import Derived.Deep.RegionHeld3
namespace Go.Proofs.Ytalcoodfoifmcaa.Arena
open Go Go.RowKit Go.Proofs.Ytalcoodfoifmcaa.Mem Go.Proofs.Ytalcoodfoifmcaa.CodecPure Go.Proofs.Ytalcoodfoifmcaa.ArenaPure Go.Proofs.Ytalcoodfoifmcaa.Codec
set_option linter.unusedVariables false
/-- an arena and, beside it, a row o of numbers l -/
structure PInv (B : Nat) (w0 w : World) (a : Ar) (s : St) (o n : Nat) (l : List Int) : Prop where
  here : Here B w0 w a s
  own : Own w B 3 .i64 (.slice (some ⟨o, 0, none⟩) n n) l
  len : l.length = n
  out : o ≠ a.g ∧ o ≠ a.ps ∧ o ∉ a.pb
  low : B ≤ o
variable {B o n : Nat} {w0 w w' : World} {a : Ar} {s s' : St} {l : List Int}
theorem PInv.arena (h : PInv B w0 w a s o n l) (hl : Lies w' a s') (hc : Chg (· ∈ a.pb) w w') : PInv B w0 w' a s' o n l :=
  ⟨h.here.now hl hc, h.own.chg hc fun g e => by simp [Value.ownBlock] at e; subst e; exact h.out.2.2, h.len, h.out, h.low⟩
theorem PInv.fresh (h : PInv B w0 w a s o n l) (hc : Chg (fun _ => False) w w') : PInv B w0 w' a s o n l :=
  ⟨h.here.fresh hc, h.own.chg hc fun g e => id, h.len, h.out, h.low⟩
theorem PInv.store (h : PInv B w0 w a s o n l) (i : Nat) (hi : i < n) (v : Int) : PInv B w0 (w.setCell ⟨o, i, none⟩ (.int .i64 v)) a s o n (l.set i v) :=
  ⟨⟨h.here.lies.chg (Chg.setCell (S := fun x => x = o) w ⟨o, i, none⟩ _ rfl) h.out.1.symm h.out.2.1.symm fun b hb e => h.out.2.2 (e ▸ hb), h.here.chg.trans (Chg.setCell _ _ _ h.low), h.here.low⟩,
    h.own.setc i (by rw [h.len]; exact hi) v, by rw [List.length_set]; exact h.len, h.out, h.low⟩
theorem PInv.cell (h : PInv B w0 w a s o n l) (i : Nat) (hi : i < n) : w.cell? ⟨o, i, none⟩ = some (.int .i64 (l.getD i 0)) ∧ w.frozen? ⟨o, i, none⟩ = false := h.own.cellAt i (by rw [h.len]; exact hi)
theorem make_ints (n : Nat) (h : n ≤ 1000000) (W : World) : (Instr.makeSlice 41 (.int .i64 n) (.int .i64 n)).run Try.prog W = .ok (.slice (some ⟨W.heap.size, 0, none⟩) n n) (W.alloc (.cells (nums .i64 (List.replicate n 0)).toArray 3)) := by
  obtain ⟨i0, hi, hz0, hz1, hz2⟩ := info_parts infoInt
  rw [run_make W 41 3 i0 (.int .i64 0) Try.underlying41 hi hz0 .i64 .i64 n n (by omega) (by omega) (by rw [hz2]; omega) (by omega), hz1]
  have e : ((n : Int)).toNat = n := by omega
  have e2 : madeCells (Value.int .i64 0).cells (n * 1) = (nums .i64 (List.replicate n 0)).toArray := by
    apply Array.ext_getElem?
    intro i
    unfold madeCells nums
    rw [Array.getElem?_map, Array.getElem?_range, List.getElem?_toArray, List.getElem?_map, List.getElem?_replicate, Nat.mul_one]
    split
    · show some (#[Value.int .i64 0][i % 1]!) = some (Value.int .i64 0)
      rw [Nat.mod_one]; rfl
    · rfl
  rw [e, e2]
theorem PInv.start (h : Here B w0 w a s) (n : Nat) (hn : n ≤ 1000000) : PInv B w0 (w.alloc (.cells (nums .i64 (List.replicate n 0)).toArray 3)) a s w.heap.size n (List.replicate n 0) where
  here := h.alloc _
  own := by
    have := Own.lit w 3 .i64 (List.replicate n 0) (by rw [List.length_replicate]; unfold maxLen; omega)
    rw [List.length_replicate] at this
    exact this.mono (by
      have := blk_lt h.lies.head
      have := h.low.1
      omega)
  len := by rw [List.length_replicate]
  out := by
    have h1 := blk_lt h.lies.head
    have h2 := World.block_lt_of_cell? w _ (h.lies.row 0 h.lies.ok.low)
    refine ⟨by omega, fun e => ?_, fun hb => ?_⟩
    · rw [← e] at h2; exact Nat.lt_irrefl _ h2
    · obtain ⟨i, hi, e⟩ := h.lies.of_mem hb
      have := blk_lt (h.lies.page i hi)
      omega
  low := by
    have := blk_lt h.lies.head
    have := h.low.1
    omega
theorem first_le (l : List Int) : first l ≤ l.length := List.findIdx_le_length
theorem first_before (l : List Int) (j : Nat) (h : j < first l) : 0 ≤ l.getD j 0 := by
  have hj : j < l.length := Nat.lt_of_lt_of_le h (first_le l)
  have := List.not_of_lt_findIdx h
  rw [List.getD_eq_getElem?_getD, List.getElem?_eq_getElem hj]
  simpa using this
theorem first_at (l : List Int) (h : first l < l.length) : l.getD (first l) 0 < 0 := by
  have h2 : decide (l[first l] < 0) = true := List.findIdx_getElem (w := h)
  rw [List.getD_eq_getElem?_getD, List.getElem?_eq_getElem h]
  exact of_decide_eq_true h2
theorem set_same (l : List Int) (i : Nat) (v : Int) (h : l.getD i 0 = v) : l.set i v = l := by
  apply List.ext_getElem?
  intro j
  rw [List.getElem?_set]
  by_cases e : i = j
  · subst e
    by_cases hi : i < l.length
    · rw [if_pos rfl, if_pos hi, List.getElem?_eq_getElem hi]
      rw [List.getD_eq_getElem?_getD, List.getElem?_eq_getElem hi] at h
      rw [← h]; rfl
    · rw [if_pos rfl, if_neg hi, List.getElem?_eq_none (by omega)]
  · rw [if_neg e]
theorem setN (l : List Int) (n k : Nat) (h : l.length = n) (hl : l = List.replicate k (-1) ++ List.replicate (n - k) 0) (hk : k < n) : l.set k (-1) = List.replicate (k + 1) (-1) ++ List.replicate (n - (k + 1)) 0 := by
  subst hl
  apply List.ext_getElem?
  intro i
  rw [List.getElem?_set]
  by_cases e : k = i
  · subst e
    rw [if_pos rfl, if_pos (by rw [h]; exact hk), List.getElem?_append_left (by rw [List.length_replicate]; omega), List.getElem?_replicate, if_pos (by omega)]
  · rw [if_neg e]
    by_cases h1 : i < k
    · rw [List.getElem?_append_left (by rw [List.length_replicate]; omega), List.getElem?_append_left (by rw [List.length_replicate]; omega), List.getElem?_replicate, List.getElem?_replicate, if_pos h1, if_pos (by omega)]
    · rw [List.getElem?_append_right (by rw [List.length_replicate]; omega), List.getElem?_append_right (by rw [List.length_replicate]; omega), List.length_replicate, List.length_replicate, List.getElem?_replicate, List.getElem?_replicate]
      by_cases h2 : i < n
      · rw [if_pos (by omega), if_pos (by omega)]
      · rw [if_neg (by omega), if_neg (by omega)]
set_option maxHeartbeats 2000000 in
set_option maxRecDepth 100000 in
theorem pages_walk (pages : Int) (A0 : Option Addr) (c0 : Nat) (l0 : List Op5) (w : World) (w1 : (Lit.int .i64 pages).wf = true) (h0 : ORow w A0 c0 l0) :
    Calls Try.prog 6 #[(.int .i64 pages), .slice A0 l0.length c0] w fun e w' => e = .returned (.bool true) ∧ Below w.heap.size w w' := by
  clear w1
  obtain ⟨p0, hp, p1, p2⟩ := small pages 32 (by decide)
  replace p1 : (IntKind.u64.wrap pages).tmod 32 = p0 := p1
  replace p2 : IntKind.u64.wrap pages % 32 = p0 := p2
  obtain ⟨p, ep⟩ : ∃ p, p0 + 1 = p := ⟨_, rfl⟩
  have q1 : (1 : Int) + p0 = p := by omega
  have q2 : 1 ≤ p := by omega
  have q3 : p ≤ 32 := by omega
  clear ep hp
  have HO := Lib.hid h0
  have hlen : l0.length ≤ 9223372036854775807 := Nat.le_trans h0.cap h0.most
  clear h0
  go_enter Try.func6, Try.ntmps6
  go_wp2_with fail
  refine (works_calls w).mono ?_
  rintro e wa ⟨rfl, hb⟩
  have CA : Hid (Chg (fun b => w.heap.size ≤ b) w wa) := (Chg.of_below hb)
  have BA : w.heap.size ≤ wa.heap.size := hb.size
  clear hb
  go_wp2_with fail
  refine (Here.new wa p (by omega) (by omega)).mono ?_
  rintro e wb ⟨a, rfl, h⟩
  rw [Int.toNat_natCast] at h
  have H0 := Lib.hid (PInv.start h p (by omega))
  have mk := make_ints p (by omega)
  clear h
  go_wp2
  clear mk
  generalize wb.heap.size = o at H0 ⊢
  generalize hL : List.replicate p (0 : Int) = L0 at H0 ⊢
  have HL := Lib.hid hL
  clear hL
  generalize wb.alloc (.cells (nums .i64 L0).toArray 3) = wd at H0 ⊢
  go_loopw [8] (fun i wr => ∃ (k : Nat) (l : List Int), k ≤ p ∧ i = .int .i64 k ∧ Hid (PInv wa.heap.size wa wr a (new p) o p l) ∧ Hid (l = List.replicate k (-1) ++ List.replicate (p - k) 0)) (fun i _ => p - (intOf i).toNat)
  case atStart => exact ⟨0, L0, by omega, rfl, H0.out, HL.out.symm⟩
  case round =>
    obtain ⟨k, l, hk, rfl, H1, E1⟩ := hrel
    by_cases hlt : k < p
    · have cc := H1.out.cell k hlt
      obtain ⟨cc1, cc2⟩ := cc
      generalize l.getD k 0 = old at cc1
      have H2 := Lib.hid (H1.out.store k hlt (-1))
      have E2 := Lib.hid (setN l p k H1.out.len E1.out hlt)
      go_wp2
      go_roundw
      case rel => exact ⟨k + 1, _, by omega, by go_num, H2.out, E2.out⟩
      case measure => simp [intOf]; omega
    · obtain rfl : k = p := by omega
      have H2 : Hid (PInv wa.heap.size wa wr a (new k) o k (new k).own) := by
        have := H1.out
        rw [E1.out, Nat.sub_self, List.replicate_zero, List.append_nil] at this
        exact this
      clear E1 H1
      have L2 : Hid ((new k).own.length = k) := H2.out.len
      go_wp2
      go_loopg [9] 80 (fun g i wr => ∃ (m : Nat) (s : St), i = .int .i64 m ∧ g = 80 - m ∧ Hid (PInv wa.heap.size wa wr a s o k s.own) ∧ m ≤ 80 ∧ m ≤ l0.length)
      case atStart => exact ⟨0, _, rfl, rfl, H2.out, by omega, by omega⟩
      case round =>
        obtain ⟨m, s, rfl, hg, H3, hm1, hm2⟩ := hrel
        have hg' := Lib.hid hg
        clear hg
        by_cases hlt2 : m < l0.length ∧ m < 80
        · obtain ⟨ha, hb⟩ := hlt2
          obtain ⟨ad, rfl, d0, _, d2, _⟩ := (HO.out.chg (CA.out.trans (H3.out.here.chg.mono fun i _ h => by omega)) (Nat.le_refl _)).fields m ha
          have ha' : (m : Int) < l0.length := by omega
          have hb' : (m : Int) < 80 := by omega
          generalize (l0.getD m Op5.none).kind = kind at d0
          generalize (l0.getD m Op5.none).n = nn at d2
          go_upto_if 62 with fail
          go_cut [] (fun wx => ∃ s' : St, Hid (PInv wa.heap.size wa wx a s' o k s'.own))
          case first =>
            by_cases hkind : kind = 1
            · subst hkind
              obtain ⟨q, hq, r1, r2⟩ := small nn k (by omega)
              have r3 : IntKind.u64.wrap (k : Int) = k := by rw [u64_wrap]; omega
              have r4 : ((k : Int) == 0) = false := by rw [beq_eq_false_iff_ne]; omega
              have hqk : (q : Int) < k := by omega
              obtain ⟨cq, fq⟩ := H3.out.cell q hq
              have hlen2 : s.own.length = k := H3.out.len
              have RE : Hid (ArenaPure.ret s q = if s.own.getD q 0 < 0 then (s, 5) else (⟨s.own.set q (-1), s.B⟩, 0)) := by
                show ArenaPure.ret s q = _
                unfold ArenaPure.ret
                rw [if_neg (by omega), Int.toNat_natCast]
              have KR : Hid (∀ W, PInv wa.heap.size wa W a s o k s.own → Calls Try.prog 13 #[(.pointer (some ⟨a.g, 0, none⟩)), (.int .i64 q)] W fun e w' => e = .returned (.int .i64 (ArenaPure.ret s q).2) ∧ PInv wa.heap.size wa w' a (ArenaPure.ret s q).1 o k s.own) := fun W h =>
                (return_calls h.here.lies q).mono fun _ _ ⟨e, h1, h2⟩ => ⟨e, h.arena h1 h2⟩
              have CL := (H3.out.here.lies.ok.cls q (by omega)).1
              clear hlen2
              by_cases hown : s.own.getD q 0 < 0
              · rw [RE.out, if_pos hown] at KR
                have ec : s.own.getD q 0 = -1 := by omega
                rw [ec] at cq
                have EC := Lib.hid ec
                clear hown CL ec
                go_wp2_with fail
                go_region_held3 (fun w' => w'.cell? ⟨o, q, none⟩ = some (.int .i64 (-1))) (go_keep)
                  (first | (go_at_call 13; refine (KR.out _ (H3.out.fresh (Chg.drew _ _))).mono ?_; rintro e w5 ⟨rfl, hp⟩; obtain ⟨cq5, fq5⟩ := hp.cell q hq; rw [EC.out] at cq5; have HP := Lib.hid hp; clear hp))
                have HP2 := Lib.hid (HP.out.store q hq (-1))
                rw [set_same _ _ _ EC.out] at HP2
                go_wp2_with fail
                go_meet
                exact ⟨_, HP2.out⟩
              · rw [RE.out, if_neg hown] at KR
                have hown' : 0 ≤ s.own.getD q 0 := by omega
                obtain ⟨c, ec⟩ : ∃ c, s.own.getD q 0 = c := ⟨_, rfl⟩
                rw [ec] at cq hown'
                have EC := Lib.hid ec
                clear hown CL ec
                go_wp2_with fail
                go_region_held3 (fun w' => w'.cell? ⟨o, q, none⟩ = some (.int .i64 c)) (go_keep)
                  (first | (go_at_call 13; refine (KR.out _ (H3.out.fresh (Chg.drew _ _))).mono ?_; rintro e w5 ⟨rfl, hp⟩; obtain ⟨cq5, fq5⟩ := hp.cell q hq; rw [EC.out] at cq5; have HP := Lib.hid hp; clear hp))
                have HP2 := Lib.hid (HP.out.store q hq (-1))
                go_wp2_with fail
                go_meet
                exact ⟨⟨s.own.set q (-1), s.B⟩, HP2.out⟩
            · obtain ⟨c, hc8, r1, r2⟩ := small nn 8 (by decide)
              replace r1 : (IntKind.u64.wrap nn).tmod 8 = c := r1
              replace r2 : IntKind.u64.wrap nn % 8 = c := r2
              have hlen2 := H3.out.len
              have KG := (grant_calls H3.out.here.lies c).mono (R' := fun e w' => e = .returned (.tuple #[.int .i64 (grant s c).2.1, .int .i64 (grant s c).2.2]) ∧ PInv wa.heap.size wa w' a (grant s c).1 o k s.own) fun _ _ ⟨e, h1, h2⟩ => ⟨e, H3.out.arena h1 h2⟩
              have fl := first_le s.own
              have fb := Lib.hid (first_before s.own)
              have fa := Lib.hid (first_at s.own)
              have GE : grant s c = if first s.own < s.own.length then (⟨s.own.set (first s.own) c, splice s.B (1024 * first s.own) Z1024⟩, (first s.own : Int), 0) else (s, 0, 2) := by
                unfold grant
                rw [if_neg (by omega)]
              rw [hlen2] at fl fa GE
              clear hlen2
              have hk1 : (kind == 1) = false := by rw [beq_eq_false_iff_ne]; exact hkind
              by_cases hf : first s.own < k
              · rw [GE, if_pos hf] at KG
                generalize hF : first s.own = f at *
                have KG2 := Lib.hid KG
                clear KG GE hF fl hkind
                go_wp2_with fail
                refine KG2.out.mono ?_
                rintro e w5 ⟨rfl, hp⟩
                have HP := Lib.hid hp
                clear hp
                go_wp2
                go_loopg [14] k (fun g i wx => ∃ j : Nat, i = .int .i64 j ∧ g = k - j ∧ j ≤ f ∧ w5 = wx)
                case atStart => exact ⟨0, rfl, rfl, by omega, rfl⟩
                case round =>
                  obtain ⟨j, rfl, hg, hj, rfl⟩ := hrel
                  have hg2 := Lib.hid hg
                  clear hg
                  by_cases hjf : j < f
                  · have c1 := (HP.out.cell j (by omega)).1
                    have c2 := fb.out j hjf
                    have hjk : (j : Int) < k := by omega
                    generalize s.own.getD j 0 = d at c1 c2
                    go_wp2
                    go_roundg (k - (j + 1))
                    case measure => have := hg2.out; omega
                    case rel => exact ⟨j + 1, by go_num, rfl, by omega, rfl⟩
                  · obtain rfl : j = f := by omega
                    have c0 := HP.out.cell j hf
                    obtain ⟨c1, c3⟩ := c0
                    have c2 := fa.out hf
                    have hjk : (j : Int) < k := by omega
                    have hne : ((j : Int) == k) = false := by rw [beq_eq_false_iff_ne]; omega
                    have HP2 := Lib.hid (HP.out.store j hf c)
                    generalize s.own.getD j 0 = d at c1 c2
                    go_wp2_with fail
                    go_meet
                    exact ⟨⟨s.own.set j c, splice s.B (1024 * j) Z1024⟩, HP2.out⟩
              · rw [GE, if_neg hf] at KG
                generalize hF : first s.own = f at *
                obtain rfl : f = k := by omega
                have KG2 := Lib.hid KG
                clear KG GE hF fl hkind
                go_wp2_with fail
                refine KG2.out.mono ?_
                rintro e w5 ⟨rfl, hp⟩
                have HP := Lib.hid hp
                clear hp
                go_wp2
                go_loopg [14] f (fun g i wx => ∃ j : Nat, i = .int .i64 j ∧ g = f - j ∧ j ≤ f ∧ w5 = wx)
                case atStart => exact ⟨0, rfl, rfl, by omega, rfl⟩
                case round =>
                  obtain ⟨j, rfl, hg, hj, rfl⟩ := hrel
                  have hg2 := Lib.hid hg
                  clear hg
                  by_cases hjf : j < f
                  · have c1 := (HP.out.cell j (by omega)).1
                    have c2 := fb.out j hjf
                    have hjk : (j : Int) < f := by omega
                    generalize s.own.getD j 0 = d at c1 c2
                    go_wp2
                    go_roundg (f - (j + 1))
                    case measure => have := hg2.out; omega
                    case rel => exact ⟨j + 1, by go_num, rfl, by omega, rfl⟩
                  · obtain rfl : j = f := by omega
                    go_wp2_with fail
                    go_meet
                    exact ⟨s, HP.out⟩
          case rest =>
            obtain ⟨s', HX⟩ := hcut
            have FC := Lib.hid (free_calls HX.out.here.lies)
            have hlen3 := Lib.hid HX.out.len
            clear d0 d2
            go_wp2
            go_loopg [15, 16] k (fun g c i wx => ∃ j : Nat, i = .int .i64 j ∧ g = k - j ∧ j ≤ k ∧ c = .int .i64 ((s'.own.take j).countP (fun c => decide (c < 0)) : Nat) ∧ wc = wx)
            case atStart => exact ⟨0, rfl, rfl, by omega, rfl, rfl⟩
            case round =>
              obtain ⟨j, rfl, hg, hj, rfl, rfl⟩ := hrel
              have hg2 := Lib.hid hg
              clear hg
              have hc : (s'.own.take j).countP (fun c => decide (c < 0)) ≤ j := Nat.le_trans List.countP_le_length (List.length_take_le _ _)
              by_cases hjk : j < k
              · have hjl : j < s'.own.length := by rw [hlen3.out]; exact hjk
                have c1 := (HX.out.cell j hjk).1
                have OC := owner_calls HX.out.here.lies j
                have OE : owner s' j = (s'.own.getD j 0, 0) := by
                  unfold owner
                  rw [if_neg (by omega), Int.toNat_natCast]
                rw [OE] at OC
                have OC2 := Lib.hid OC
                have T := Lib.hid (countP_take (fun c => decide (c < 0)) s'.own j hjl)
                have hjk2 : (j : Int) < k := by omega
                generalize (s'.own.take j).countP (fun c => decide (c < 0)) = m' at T hc ⊢
                generalize s'.own.getD j 0 = d at c1 OC2 T
                clear OC OE hjl
                by_cases h0 : d < 0
                · go_wp2_with (go_at_call 14; refine (OC2.out).mono ?_; rintro e w' ⟨rfl, rfl⟩)
                  go_roundg (k - (j + 1))
                  case measure => have := hg2.out; omega
                  case rel => exact ⟨j + 1, by go_num, rfl, by omega, by rw [T.out, if_pos (by simpa using h0)]; go_num, rfl⟩
                · have h0' : 0 ≤ d := by omega
                  have T2 : Hid ((s'.own.take (j + 1)).countP (fun c => decide (c < 0)) = m') := by have := T.out; rw [if_neg (by simpa using h0)] at this; exact this
                  go_wp2_with (go_at_call 14; refine (OC2.out).mono ?_; rintro e w' ⟨rfl, rfl⟩)
                  go_roundg (k - (j + 1))
                  case measure => have := hg2.out; omega
                  case rel => exact ⟨j + 1, by go_num, rfl, by omega, by rw [T2.out], rfl⟩
              · obtain rfl : j = k := by omega
                have T : Hid (((s'.own.take j).countP (fun c => decide (c < 0))) = free s') := by
                  show _ = _
                  rw [List.take_of_length_le (by rw [hlen3.out]; exact Nat.le_refl _)]; rfl
                rw [T.out]
                clear T hc
                go_wp2_with (go_at_call 15; refine (FC.out).mono ?_; rintro e w' ⟨rfl, rfl⟩)
                go_roundg (80 - (m + 1))
                case measure => have := hg'.out; omega
                case rel => exact ⟨m + 1, s', by go_num, rfl, HX.out, by omega, by omega⟩
        · have F : Hid (Below w.heap.size w wr) := (CA.out.trans (H3.out.here.chg.mono fun i _ h => by omega)).below (Nat.le_refl _) fun _ h => h
          by_cases ha : m < l0.length
          · have hb : ¬ m < 80 := fun h => hlt2 ⟨ha, h⟩
            obtain rfl : m = 80 := by omega
            clear hlt2
            go_wp2
            go_ret
            exact ⟨rfl, F.out⟩
          · clear hlt2
            go_wp2
            go_ret
            exact ⟨rfl, F.out⟩

end Go.Proofs.Ytalcoodfoifmcaa.Arena
