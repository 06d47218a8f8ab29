/- The walk of the law ArenaKeeps: it returns true at any place, bytes and acts. -/
import Derived.Test.YtalcoodfoifmcaaArenaClean
namespace Go.Proofs.Ytalcoodfoifmcaa.Arena
open Go Go.RowKit Go.Proofs.Ytalcoodfoifmcaa.Mem Go.Proofs.Ytalcoodfoifmcaa.CodecPure Go.Proofs.Ytalcoodfoifmcaa.ArenaPure Go.Proofs.Ytalcoodfoifmcaa.Codec
set_option linter.unusedVariables false
/-- page 0 is granted, and b lies in it from A on -/
structure KInv (s : St) (A : Nat) (b : List Int) : Prop where
  ok : Ok s
  len : s.own.length = 4
  own : 0 ≤ s.own.getD 0 0
  byt : (s.B.drop A).take b.length = b
  fit : A + b.length ≤ 900
theorem splice_far (L X : List Int) (off a n : Nat) (h : off + X.length ≤ L.length) (hf : a + n ≤ off ∨ off + X.length ≤ a) : ((splice L off X).drop a).take n = (L.drop a).take n := by
  apply List.ext_getElem?
  intro i
  rw [List.getElem?_take, List.getElem?_take]
  by_cases hi : i < n
  · rw [if_pos hi, if_pos hi, List.getElem?_drop, List.getElem?_drop, splice_get _ _ _ h, if_neg (by omega)]
  · rw [if_neg hi, if_neg hi]
theorem KInv.grant {s : St} {A : Nat} {b : List Int} (h : KInv s A b) (c : Int) : KInv (grant s c).1 A b := by
  unfold ArenaPure.grant
  by_cases h1 : c < 0 ∨ 8 ≤ c
  · rw [if_pos h1]; exact h
  · rw [if_neg h1]
    by_cases h2 : first s.own < s.own.length
    · rw [if_pos h2]
      have hk : first s.own ≠ 0 := fun e => by
        have := first_at s.own h2
        rw [e] at this
        have := h.own
        omega
      have hl := h.ok.len
      have hz : 1024 * first s.own + Z1024.length ≤ s.B.length := by rw [Z1024_length]; omega
      refine ⟨granted_ok h.ok _ c h2 (by omega), by show (s.own.set _ c).length = 4; rw [List.length_set]; exact h.len, ?_, ?_, h.fit⟩
      · show 0 ≤ (s.own.set (first s.own) c).getD 0 0
        rw [getD_set _ _ _ _ h2, if_neg (fun e => hk e.symm)]; exact h.own
      · show ((splice s.B (1024 * first s.own) Z1024).drop A).take b.length = b
        rw [splice_far _ _ _ _ _ hz (.inl (by have := h.fit; omega))]; exact h.byt
    · rw [if_neg h2]; exact h
theorem KInv.ret {s : St} {A : Nat} {b : List Int} (h : KInv s A b) (n : Int) (hn : n ≠ 0) : KInv (ArenaPure.ret s n).1 A b := by
  unfold ArenaPure.ret
  by_cases h1 : n < 0 ∨ (s.own.length : Int) ≤ n
  · rw [if_pos h1]; exact h
  · rw [if_neg h1]
    by_cases h2 : s.own.getD n.toNat 0 < 0
    · rw [if_pos h2]; exact h
    · rw [if_neg h2]
      have hi : n.toNat < s.own.length := by omega
      refine ⟨ok_set h.ok _ (-1) hi (by decide) _ rfl h.ok.bytes, by show (s.own.set _ (-1)).length = 4; rw [List.length_set]; exact h.len, ?_, h.byt, h.fit⟩
      show 0 ≤ (s.own.set n.toNat (-1)).getD 0 0
      rw [getD_set _ _ _ _ hi, if_neg (by omega)]; exact h.own
theorem KInv.write {s : St} {A : Nat} {b : List Int} (h : KInv s A b) (at_ : Int) (l : List Int) (ha : (A : Int) + b.length ≤ at_) (hl : Bytes l) : KInv (write s at_ l).1 A b := by
  unfold ArenaPure.write
  by_cases h1 : within s at_ l.length
  · rw [if_pos h1]
    have hr := in_row h.ok h1
    exact ⟨lay_ok h.ok (by omega) hl, h.len, h.own, by show ((splice s.B at_.toNat l).drop A).take b.length = b; rw [splice_far _ _ _ _ _ (by omega) (.inl (by omega))]; exact h.byt, h.fit⟩
  · rw [if_neg h1]; exact h
theorem KInv.within {s : St} {A : Nat} {b : List Int} (h : KInv s A b) : within s A b.length := by
  have := h.fit
  unfold ArenaPure.within
  rw [h.len]
  have e : ((A : Int) / 1024).toNat = 0 := by omega
  rw [e]
  exact ⟨by omega, by omega, by omega, h.own, by omega⟩
theorem KInv.read {s : St} {A : Nat} {b : List Int} (h : KInv s A b) : readA s A b.length = (b, 0) := by
  unfold readA
  rw [if_pos h.within]
  show (got s A b.length, (0 : Int)) = _
  unfold got
  rw [Int.toNat_natCast, Int.toNat_natCast, h.byt]
def K1 : St := (grant (new 4) 1).1
theorem K1_own : K1.own = [1, -1, -1, -1] := by decide +kernel
theorem K1_ok : Ok K1 := by
  have : K1 = granted (new 4) 0 1 := rfl
  rw [this]
  exact granted_ok (new_ok 4 (by decide) (by decide)) 0 1 (by decide) (by decide)
theorem KInv.start (A : Nat) (b : List Int) (hA : A < 400) (hb : b.length ≤ 500) (hB : Bytes b) : (ArenaPure.write K1 A b) = ((ArenaPure.write K1 A b).1, 0) ∧ KInv (ArenaPure.write K1 A b).1 A b := by
  have W : ArenaPure.within K1 A b.length := by
    unfold ArenaPure.within
    rw [K1_own]
    have e : ((A : Int) / 1024).toNat = 0 := by omega
    rw [e]
    exact ⟨by omega, by omega, by simp; omega, by decide, by omega⟩
  have hr := in_row K1_ok W
  unfold ArenaPure.write
  rw [if_pos W]
  refine ⟨rfl, lay_ok K1_ok (by omega) hB, by show K1.own.length = 4; rw [K1_own]; rfl, by show 0 ≤ K1.own.getD 0 0; rw [K1_own]; decide, ?_, by omega⟩
  show ((splice K1.B ((A : Int)).toNat b).drop A).take b.length = b
  rw [Int.toNat_natCast]
  apply List.ext_getElem?
  intro i
  rw [List.getElem?_take]
  by_cases hi : i < b.length
  · rw [if_pos hi, List.getElem?_drop, splice_get _ _ _ (by omega), if_pos (by omega), Nat.add_sub_cancel_left]
  · rw [if_neg hi, List.getElem?_eq_none (by omega)]
set_option maxHeartbeats 2000000 in
set_option maxRecDepth 100000 in
theorem keeps_walk (at_ : Int) (A0 : Option Addr) (c0 : Nat) (l0 : List Int) (A2 : Option Addr) (c2 : Nat) (l2 : List Op5) (w : World) (w1 : (Lit.int .i64 at_).wf = true) (h0 : RowOf w .u8 A0 c0 l0 1) (h2 : ORow w A2 c2 l2) :
    Calls Try.prog 3 #[(.int .i64 at_), .slice A0 l0.length c0, .slice A2 l2.length c2] w fun e w' => e = .returned (.bool true) ∧ Below w.heap.size w w' := by
  have hm1 : l0.length ≤ 9223372036854775807 := Nat.le_trans h0.cap h0.most
  have hm2 : l2.length ≤ 9223372036854775807 := Nat.le_trans h2.cap h2.most
  by_cases hh : 500 < l0.length
  · clear h0 h2 w1
    go_enter Try.func3, Try.ntmps3
    go_wp2_with fail
    refine (works_calls w).mono ?_
    rintro e wa ⟨rfl, hb⟩
    have HB := Lib.hid hb
    clear hb
    go_wp2
    go_ret
    exact ⟨rfl, HB.out⟩
  have hm : l0.length ≤ 500 := by omega
  have HS := Lib.hid h0.sl
  have HN : Hid (A0 = none → c0 = 0) := fun e => (h0.nil e).2
  have HB : Hid (Bytes l0) := fun x hx => bounds_u8 (h0.wf x hx)
  have HO := Lib.hid h2
  clear w1 h0 h2 hh hm1
  obtain ⟨A, ha, a1, a2⟩ := small at_ 400 (by decide)
  replace a1 : (IntKind.u64.wrap at_).tmod 400 = A := a1
  replace a2 : IntKind.u64.wrap at_ % 400 = A := a2
  obtain ⟨W1, KK0⟩ := KInv.start A l0 ha hm HB.out
  generalize (ArenaPure.write K1 A l0).1 = s1 at W1 KK0
  have W1 := Lib.hid W1
  have KK0 := Lib.hid KK0
  go_enter Try.func3, Try.ntmps3
  go_wp2_with fail
  refine (works_calls w).mono ?_
  rintro e wa ⟨rfl, hb⟩
  have CA : Hid (Chg (fun b => w.heap.size ≤ b) w wa) := (Chg.of_below hb)
  have BA : w.heap.size ≤ wa.heap.size := hb.size
  clear hb
  go_wp2_with fail
  refine (Here.new wa 4 (by omega) (by omega)).mono ?_
  rintro e wb ⟨a, rfl, h⟩
  have H0 : Hid (Here wa.heap.size wa wb a (new 4)) := h
  clear h
  have dK0 := H0.out.grant 1
  have dK1 := Lib.hid dK0
  clear dK0
  go_wp2_with fail
  refine dK1.out.mono ?_
  rintro e wc ⟨rfl, hnew⟩
  have H1 := Lib.hid hnew
  clear hnew dK1
  have S3 : Hid (Sl wc .u8 A0 l0) := HS.out.later (CA.out.trans (H1.out.chg.mono fun i _ h => by omega)) (Nat.le_refl _)
  go_wp2_with (at_builtin; refine wpList_app rfl _ _ 22 rfl wc.heap.size 5 .u8 1 Try.underlying22 infoByte _ [] rfl (Own.lit wc 5 .u8 [] (Nat.zero_le _)) A0 _ c0 l0 rfl rfl (S3.out.later (Chg.alloc _ wc _) (Nat.le_refl _)) HN.out ?h63 ?hby ?hba ?_; (case h63 => unfold maxLen; simp; omega); (case hby => simp; omega); (case hba => simp); intro A' c' n' w3 hn' hown hchg; obtain rfl : n' = l0.length := (by simpa using hn'); have O3 : Hid (Own w3 wc.heap.size 5 .u8 (.slice A' l0.length c') l0) := hown; have H2 : Hid (Here wa.heap.size wa w3 a K1) := (H1.out.fresh (((Chg.alloc _ wc _).trans hchg).mono fun i h1 h2 => by omega)); clear hn' hown hchg)
  have dK0 := H2.out.write A A' c' l0 O3.out.sl HB.out (by omega) (by omega)
  rw [W1.out] at dK0
  have dK1 := Lib.hid dK0
  clear dK0
  go_wp2_with fail
  refine dK1.out.mono ?_
  rintro e we ⟨rfl, hnew⟩
  have H3 := Lib.hid hnew
  clear hnew dK1
  have dK0 := H3.out.read A l0.length (by omega)
  rw [KK0.out.read] at dK0
  have dK1 := Lib.hid dK0
  clear dK0
  go_wp2_with fail
  refine dK1.out.mono ?_
  rintro e wf ⟨A4, c4, rfl, o4, hnew⟩
  have H4 := Lib.hid hnew
  clear hnew dK1
  have O4 : Hid (Own wf we.heap.size 5 .u8 (.slice A4 l0.length c4) l0) := o4
  have PL := Lib.hid H3.out.pb_lt
  clear o4
  go_wp2
  go_loopg [11] 40 (fun g i wr => ∃ (k : Nat) (s : St), i = .int .i64 k ∧ g = 40 - k ∧ Hid (Here wa.heap.size wa wr a s) ∧ Hid (KInv s A l0) ∧ Hid (Own wr we.heap.size 5 .u8 (.slice A4 l0.length c4) l0) ∧ k ≤ 40 ∧ k ≤ l2.length)
  case atStart => exact ⟨0, _, rfl, rfl, H4.out, KK0.out, O4.out, by omega, by omega⟩
  case round =>
    obtain ⟨wo, rfl⟩ : ∃ wo : World, wo = wr := ⟨_, rfl⟩
    obtain ⟨k, s, rfl, hg, H5, KK5, O5, hk1, hk2⟩ := hrel
    have hg2 := Lib.hid hg
    clear hg
    by_cases hlt2 : k < l2.length ∧ k < 40
    · obtain ⟨h1, h2⟩ := hlt2
      have h1' : (k : Int) < l2.length := by omega
      have h2' : (k : Int) < 40 := by omega
      have OR := HO.out.chg (CA.out.trans (H5.out.chg.mono fun i _ h => by omega)) (Nat.le_refl _)
      obtain ⟨ad, rfl, d0, d1, d2, d3, d4⟩ := OR.fields k h1
      obtain ⟨ad', e', -, -, -, -, -, -, f1, -, -, f4⟩ := OR.op k h1
      cases e'
      clear OR
      generalize l2.getD k Op5.none = op at d0 d1 d2 d3 d4 f1 f4
      obtain ⟨f10, f11⟩ := bounds_i64 f1
      have F4 := Lib.hid f4
      have H6 := Lib.hid (H5.out.alloc (.cells #[.int .i64 op.kind, .int .i64 op.at_, .int .i64 op.n, .int .u64 op.v, .slice op.A op.b.length op.c] 36))
      have O6 : Hid (Own (wo.alloc (.cells #[.int .i64 op.kind, .int .i64 op.at_, .int .i64 op.n, .int .u64 op.v, .slice op.A op.b.length op.c] 36)) we.heap.size 5 .u8 (.slice A4 l0.length c4) l0) := O5.out.chg (S := fun _ => False) (Chg.alloc _ _ _) fun _ _ => id
      clear f1 f4
      have hob : op.b.length ≤ 9223372036854775807 := Nat.le_trans F4.out.cap F4.out.most
      by_cases e0 : op.kind = 0
      · rw [e0] at d0 H6 O6
        have dK0 := H6.out.grantC op.n
        have dK1 := Lib.hid dK0
        clear dK0
        go_wp2_with fail
        refine dK1.out.mono ?_
        rintro e w5 ⟨rfl, hnew, hc⟩
        have H7 := Lib.hid hnew
        clear hnew dK1
        have O7 := Lib.hid (Own.other O6.out PL.out hc)
        clear hc
        go_wp2
        go_roundg (40 - (k + 1))
        case measure => have := hg2.out; omega
        case rel => exact ⟨k + 1, _, by go_num, rfl, H7.out, KK5.out.grant op.n, O7.out, by omega, by omega⟩
      · by_cases e1 : op.kind = 1
        · rw [e1] at d0 H6 O6
          by_cases en : op.n = 0
          · rw [en] at d2 H6 O6
            go_wp2
            go_roundg (40 - (k + 1))
            case measure => have := hg2.out; omega
            case rel => exact ⟨k + 1, s, by go_num, rfl, H6.out, KK5.out, O6.out, by omega, by omega⟩
          · have t1 : (op.n == 0) = false := by rw [beq_eq_false_iff_ne]; exact en
            have t2 : (op.n != 0) = true := by simp [bne, t1]
            have KK7 := Lib.hid (KK5.out.ret op.n en)
            clear en e0 e1
            have dK0 := H6.out.retC op.n
            have dK1 := Lib.hid dK0
            clear dK0
            go_wp2_with fail
            refine dK1.out.mono ?_
            rintro e w5 ⟨rfl, hnew, hc⟩
            have H7 := Lib.hid hnew
            clear hnew dK1
            have O7 := Lib.hid (Own.other O6.out PL.out hc)
            clear hc
            go_wp2
            go_roundg (40 - (k + 1))
            case measure => have := hg2.out; omega
            case rel => exact ⟨k + 1, _, by go_num, rfl, H7.out, KK7.out, O7.out, by omega, by omega⟩
        · have t0 : (op.kind == 0) = false := by rw [beq_eq_false_iff_ne]; exact e0
          have t1 : (op.kind == 1) = false := by rw [beq_eq_false_iff_ne]; exact e1
          clear e0 e1
          by_cases e2 : (A : Int) + l0.length ≤ op.at_
          · by_cases e3 : op.b.length ≤ 2000
            · have e3' : (op.b.length : Int) ≤ 2000 := by omega
              have KK7 := Lib.hid (KK5.out.write op.at_ op.b e2 (fun x hx => bounds_u8 (F4.out.wf x hx)))
              have dK0 := H6.out.writeC op.at_ op.A op.c op.b (F4.out.sl.later (B := wo.heap.size) ((Chg.alloc _ _ _).mono fun _ _ h => h) (Nat.le_refl _)) (fun x hx => bounds_u8 (F4.out.wf x hx)) (by omega) ⟨f10, f11⟩
              have dK1 := Lib.hid dK0
              clear dK0
              go_wp2_with fail
              refine dK1.out.mono ?_
              rintro e w5 ⟨rfl, hnew, hc⟩
              have H7 := Lib.hid hnew
              clear hnew dK1
              have O7 := Lib.hid (Own.other O6.out PL.out hc)
              clear hc
              go_wp2
              go_roundg (40 - (k + 1))
              case measure => have := hg2.out; omega
              case rel => exact ⟨k + 1, _, by go_num, rfl, H7.out, KK7.out, O7.out, by omega, by omega⟩
            · have e3' : (2000 : Int) < op.b.length := by omega
              go_wp2
              go_roundg (40 - (k + 1))
              case measure => have := hg2.out; omega
              case rel => exact ⟨k + 1, s, by go_num, rfl, H6.out, KK5.out, O6.out, by omega, by omega⟩
          · have e2' : op.at_ < (A : Int) + l0.length := by omega
            go_wp2
            go_roundg (40 - (k + 1))
            case measure => have := hg2.out; omega
            case rel => exact ⟨k + 1, s, by go_num, rfl, H6.out, KK5.out, O6.out, by omega, by omega⟩
    · have hend : (l2.length : Int) ≤ k ∨ ((k : Int) < l2.length ∧ k = 40) := by omega
      clear hlt2
      have S5 : Hid (∀ W, Here wa.heap.size wa W a s → Sl W .u8 A0 l0) := fun W h => HS.out.later (CA.out.trans (h.chg.mono fun i _ h => by omega)) (Nat.le_refl _)
      have KR := Lib.hid KK5.out.read
      rcases hend with h9 | ⟨h9, rfl⟩
      all_goals
        have dK0 := H5.out.readC A l0.length (by omega)
        rw [KR.out] at dK0
        have dK1 := Lib.hid dK0
        clear dK0
        go_wp2_with fail
        refine dK1.out.mono ?_
        rintro e w5 ⟨A7, c7, rfl, o7, hnew, hc⟩
        have H7 := Lib.hid hnew
        clear hnew dK1
        have O7 : Hid (Own w5 wo.heap.size 5 .u8 (.slice A7 l0.length c7) l0) := o7
        have O8 : Hid (Own w5 we.heap.size 5 .u8 (.slice A4 l0.length c4) l0) := O5.out.chg hc fun _ _ => id
        have AP : Hid (∀ g, (Value.slice A7 l0.length c7).ownBlock = some g → (Value.slice A4 l0.length c4).ownBlock ≠ some g ∧ g ∉ a.pb ∧ g ≠ a.g ∧ g ≠ a.ps ∧ wa.heap.size ≤ g) := fun g e => by
          have q1 := (World.ownsRow.lt O7.out g e).1
          refine ⟨fun e2 => ?_, fun hb => ?_, ?_, ?_, ?_⟩
          · have := (World.ownsRow.lt O5.out g e2).2
            omega
          · have := H5.out.pb_lt g hb
            omega
          · have := blk_lt H5.out.lies.head
            omega
          · have := World.block_lt_of_cell? wo _ (H5.out.lies.row 0 H5.out.lies.ok.low)
            intro e
            rw [← e] at this
            exact absurd this (by show ¬ g < _; omega)
          · have := H5.out.chg.size
            omega
        clear o7 hc
        go_wp2
        go_loopg [15] l0.length (fun g i wx => ∃ m : Nat, i = .int .i64 m ∧ g = l0.length - m ∧ m ≤ l0.length ∧ Hid (Here wa.heap.size wa wx a s) ∧ Hid (Own wx we.heap.size 5 .u8 (.slice A4 l0.length c4) l0) ∧ Hid (∃ l : List Int, l.length = l0.length ∧ Own wx wo.heap.size 5 .u8 (.slice A7 l0.length c7) l))
        case atStart => exact ⟨0, rfl, rfl, by omega, H7.out, O8.out, l0, rfl, O7.out⟩
        case round =>
          obtain ⟨m, rfl, hg3, hm3, H9, O9, L9⟩ := hrel
          have hg4 := Lib.hid hg3
          clear hg3
          by_cases hmk : m < l0.length
          · obtain ⟨l, hl, OL⟩ := L9.out
            obtain ⟨g, cs, e, -⟩ := OL.blk (by omega)
            subst e
            obtain ⟨cm, fm⟩ := OL.cellAt m (by omega)
            obtain ⟨ap1, ap2, ap3, ap4, ap5⟩ := AP.out g rfl
            have OL2 : Hid (∃ l : List Int, l.length = l0.length ∧ Own (wr.setCell ⟨g, m, none⟩ (.int .u8 7)) wo.heap.size 5 .u8 (.slice (some ⟨g, 0, none⟩) l0.length c7) l) := ⟨l.set m 7, by rw [List.length_set]; exact hl, OL.setc m (by omega) 7⟩
            have O10 : Hid (Own (wr.setCell ⟨g, m, none⟩ (.int .u8 7)) we.heap.size 5 .u8 (.slice A4 l0.length c4) l0) := O9.out.chg (S := fun x => x = g) (Chg.setCell _ _ _ rfl) fun x e2 e3 => by subst e3; exact ap1 e2
            have H10 : Hid (Here wa.heap.size wa (wr.setCell ⟨g, m, none⟩ (.int .u8 7)) a s) := ⟨H9.out.lies.chg (S := fun x => x = g) (Chg.setCell _ _ _ rfl) (fun e => ap3 e.symm) (fun e => ap4 e.symm) fun b hb e => ap2 (e ▸ hb), H9.out.chg.trans (Chg.setCell _ _ _ ap5), H9.out.low⟩
            generalize l.getD m 0 = old at cm
            have HL := Lib.hid hl
            clear ap1 ap2 ap3 ap4 ap5 OL hl
            have hmk2 : (m : Int) < l0.length := by omega
            go_wp2
            go_roundg (l0.length - (m + 1))
            case measure => have := hg4.out; omega
            case rel => exact ⟨m + 1, by go_num, rfl, by omega, H10.out, O10.out, OL2.out⟩
          · obtain rfl : m = l0.length := by omega
            clear L9 AP
            have KR2 : Hid (readA s A l0.length = (l0, 0)) := KR.out
            have dK0 := H9.out.readC A l0.length (by omega)
            rw [KR2.out] at dK0
            have dK1 := Lib.hid dK0
            clear dK0
            go_wp2_with fail
            refine dK1.out.mono ?_
            rintro e w6 ⟨A8, c8, rfl, o8, hnew, hc⟩
            have H11 := Lib.hid hnew
            clear hnew dK1
            have k1 : (Go.convert 22 9 (.slice A8 l0.length c8)).run Try.prog w6 = .ok (.string (strOfNums l0)) w6 := conv_sl (c := c8) Try.underlying22 Try.underlying5 Try.underlying9 o8.sl
            have k2 : (Go.convert 22 9 (.slice A4 l0.length c4)).run Try.prog w6 = .ok (.string (strOfNums l0)) w6 := conv_sl (c := c4) Try.underlying22 Try.underlying5 Try.underlying9 (Own.chg O9.out hc fun _ _ => id).sl
            have k3 : (Go.convert 22 9 (.slice A0 l0.length c0)).run Try.prog w6 = .ok (.string (strOfNums l0)) w6 := conv_sl (c := c0) Try.underlying22 Try.underlying5 Try.underlying9 (S5.out w6 H11.out)
            have F : Hid (Below w.heap.size w w6) := (CA.out.trans (H11.out.chg.mono fun i _ h => by omega)).below (Nat.le_refl _) fun _ h => h
            generalize strOfNums l0 = str at k1 k2 k3
            clear o8 hc
            go_wp2
            go_ret
            exact ⟨rfl, F.out⟩
end Go.Proofs.Ytalcoodfoifmcaa.Arena
