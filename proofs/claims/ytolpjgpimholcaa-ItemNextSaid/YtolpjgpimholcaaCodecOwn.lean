/- Put and PutPlace of bytes of the call's own; the reference's Put, GetPlace and PutPlace of any bytes. -/
import Derived.Test.YtolpjgpimholcaaCodecRef
import Derived.Test.YtolpjgpimholcaaStr
namespace Go.Proofs.Ytolpjgpimholcaa.Codec
open Go.RowKit Go.Proofs.Ytolpjgpimholcaa.Mem Go.Proofs.Ytolpjgpimholcaa.CodecPure
set_option linter.unusedVariables false
set_option maxRecDepth 100000

theorem bytes_splice (l bs : List Int) (a : Nat) (hl : Bytes l) (hb : Bytes bs) : Bytes (splice l a bs) := by
  intro x hx
  unfold splice at hx
  simp only [List.mem_append] at hx
  rcases hx with h | h | h
  · exact hl x (List.mem_of_mem_take h)
  · exact hb x h
  · exact hl x (List.mem_of_mem_drop h)
theorem bytes_putC (l : List Int) (at_ width v : Int) (hl : Bytes l) : Bytes (putC l at_ width v).1 := by
  unfold putC
  by_cases ht : there l.length at_ width
  · rw [if_pos ht]
    split
    · exact hl
    · exact bytes_splice l _ _ hl (leb_bytes _ _)
  · rw [if_neg ht]; exact hl
theorem bytes_putPlaceC (l : List Int) (at_ place : Int) (hl : Bytes l) : Bytes (putPlaceC l at_ place).1 := by
  unfold putPlaceC
  by_cases ht : there l.length at_ 4
  · rw [if_pos ht]
    split
    · exact hl
    · exact bytes_splice l _ _ hl (leb_bytes _ _)
  · rw [if_neg ht]; exact hl
theorem putPlaceC_length (l : List Int) (at_ place : Int) : (putPlaceC l at_ place).1.length = l.length := by
  by_cases h : place < -1 ∨ place > 2147483647
  · unfold putPlaceC
    by_cases ht : there l.length at_ 4
    · rw [if_pos ht, if_pos h]
    · rw [if_neg ht]
  · rw [putPlaceC_of l at_ place h]; exact putC_length _ _ _ _
theorem putPlaceRow_of (cs : List Value) (o : Nat) (l : List Int) (at_ place : Int) (h : ¬ (place < -1 ∨ place > 2147483647)) : putPlaceRow cs o l at_ place = putRow cs o l at_ 4 (place % 4294967296) := by
  unfold putPlaceRow putRow
  rw [putPlaceC_of l at_ place h]; rfl
theorem putPlaceRow_far (cs : List Value) (o : Nat) (l : List Int) (at_ place : Int) (h : place < -1 ∨ place > 2147483647) : putPlaceRow cs o l at_ place = cs ∧ (putPlaceC l at_ place).1 = l := by
  unfold putPlaceRow putPlaceC
  by_cases ht : there l.length at_ 4
  · rw [if_pos ht, if_pos h, if_neg (by simp)]; exact ⟨rfl, rfl⟩
  · rw [if_neg ht, if_neg (by simp)]; exact ⟨rfl, rfl⟩
theorem putPlaceRow_length (cs : List Value) (o : Nat) (l : List Int) (at_ place : Int) (hf : o + l.length ≤ cs.length) : (putPlaceRow cs o l at_ place).length = cs.length := by
  by_cases h : place < -1 ∨ place > 2147483647
  · rw [(putPlaceRow_far cs o l at_ place h).1]
  · rw [putPlaceRow_of cs o l at_ place h]; exact putRow_length cs o l at_ 4 _ hf
theorem putPlaceRow_cells (cs : List Value) (o : Nat) (l : List Int) (at_ place : Int) (hf : o + l.length ≤ cs.length) (hc : ∀ j, j < l.length → cs[o + j]? = some (.int .u8 (l.getD j 0))) :
    ∀ j, j < l.length → (putPlaceRow cs o l at_ place)[o + j]? = some (.int .u8 ((putPlaceC l at_ place).1.getD j 0)) := by
  by_cases h : place < -1 ∨ place > 2147483647
  · rw [(putPlaceRow_far cs o l at_ place h).1, (putPlaceRow_far cs o l at_ place h).2]; exact hc
  · rw [putPlaceRow_of cs o l at_ place h, putPlaceC_of l at_ place h]; exact putRow_cells cs o l at_ 4 _ hf hc

/-- one answer, a number; the bytes of the call's own are these now; nothing else that was there has turned -/
def Wr (w : World) (base : Nat) (A : Option Addr) (n c : Nat) (l : List Int) (err : Int) (e : Ending) (w' : World) : Prop :=
  e = .returned (.int .i64 err) ∧ Own w' base 5 .u8 (.slice A n c) l ∧ Chg (fun b => base ≤ b) w w'
theorem put_own (A : Option Addr) (c base : Nat) (l : List Int) (at_ width v : Int) (w : World) (ho : Own w base 5 .u8 (.slice A l.length c) l) (hm : l.length ≤ 1000000000)
    (hx : -9223372036854775808 ≤ at_ ∧ at_ ≤ 9223372036854775807) (h0 : 0 ≤ v) (h1 : v < 18446744073709551616) :
    Calls Try.prog 95 #[.slice A l.length c, .int .i64 at_, .int .i64 width, .int .u64 v] w (Wr w base A l.length c (putC l at_ width v).1 (putC l at_ width v).2) := by
  by_cases hl : 0 < l.length
  · obtain ⟨g, cs, rfl, hg, hB, _, hl1, hl2, hl3, hcell⟩ := ho.blk hl
    refine (put_calls g 0 c 5 cs l at_ width v w hB (by omega) (by omega) hl3 hx h0 h1).mono fun e w' ⟨he, hw⟩ => ⟨he, ?_, ?_⟩
    · subst hw
      have z := putC_length l at_ width v
      have := Own.of_blk (k := .u8) (l := (putC l at_ width v).1) (c := c) hg (setRow_heap w g _ (putRow cs 0 l at_ width v).toArray _ (0, 0) hB) (by rw [putRow_length cs 0 l _ _ _ (by omega)]; omega) (by rw [putRow_length cs 0 l _ _ _ (by omega)]; omega) hl3 (fun j hj => by
        have := putRow_cells cs 0 l at_ width v (by omega) (fun j hj => by rw [Nat.zero_add]; exact hcell j hj) j (by omega)
        rw [Nat.zero_add] at this
        exact this)
      rw [z] at this
      exact this
    · subst hw
      exact Chg.setRow w g _ hg
  · obtain rfl : l = [] := List.eq_nil_of_length_eq_zero (by omega)
    have hno : ¬ there ([] : List Int).length at_ width := by
      intro h
      have := h.1
      have := h.2
      simp at this
      omega
    have e : putC [] at_ width v = ([], 1) := by unfold putC; rw [if_neg hno]
    rw [e]
    refine (put_no A 0 c at_ width v w (by omega) hx hno).mono fun e w' ⟨he, hw⟩ => ⟨he, ?_, ?_⟩
    · subst hw; exact ho
    · subst hw; exact Chg.refl _ w
theorem putplace_own (A : Option Addr) (c base : Nat) (l : List Int) (at_ place : Int) (w : World) (ho : Own w base 5 .u8 (.slice A l.length c) l) (hm : l.length ≤ 1000000000)
    (hx : -9223372036854775808 ≤ at_ ∧ at_ ≤ 9223372036854775807) (hp : -9223372036854775808 ≤ place ∧ place ≤ 9223372036854775807) :
    Calls Try.prog 96 #[.slice A l.length c, .int .i64 at_, .int .i64 place] w (Wr w base A l.length c (putPlaceC l at_ place).1 (putPlaceC l at_ place).2) := by
  by_cases hl : 0 < l.length
  · obtain ⟨g, cs, rfl, hg, hB, _, hl1, hl2, hl3, hcell⟩ := ho.blk hl
    refine (putplace_calls g 0 c 5 cs l at_ place w hB (by omega) (by omega) hl3 hx hp).mono fun e w' ⟨he, hw⟩ => ⟨he, ?_, ?_⟩
    · subst hw
      have z := putPlaceC_length l at_ place
      have := Own.of_blk (k := .u8) (l := (putPlaceC l at_ place).1) (c := c) hg (setRow_heap w g _ (putPlaceRow cs 0 l at_ place).toArray _ (0, 0) hB) (by rw [putPlaceRow_length cs 0 l _ _ (by omega)]; omega) (by rw [putPlaceRow_length cs 0 l _ _ (by omega)]; omega) hl3 (fun j hj => by
        have := putPlaceRow_cells cs 0 l at_ place (by omega) (fun j hj => by rw [Nat.zero_add]; exact hcell j hj) j (by omega)
        rw [Nat.zero_add] at this
        exact this)
      rw [z] at this
      exact this
    · subst hw
      exact Chg.setRow w g _ hg
  · obtain rfl : l = [] := List.eq_nil_of_length_eq_zero (by omega)
    have hno : ¬ there ([] : List Int).length at_ 4 := by
      intro h
      have := h.2
      simp at this
      omega
    have e : putPlaceC [] at_ place = ([], 1) := by unfold putPlaceC; rw [if_neg hno]
    rw [e]
    have H := Lib.hid (part_no A 0 c at_ 4 w (by omega) hx hno)
    have R : Hid (∀ e w', e = Ending.returned (.int .i64 1) → w = w' → Wr w base A ([] : List Int).length c [] 1 e w') := fun e w' he hw => by
      subst hw; exact ⟨he, ho, Chg.refl _ w⟩
    clear e hno hl ho hm hx hp
    show Calls Try.prog 96 #[.slice A 0 c, .int .i64 at_, .int .i64 place] w _
    go_enter Try.func96, Try.ntmps96
    go_wp2_with (go_at_call 112; refine H.out.mono ?_; rintro e w' ⟨rfl, rfl⟩)
    go_ret
    exact R.out _ _ rfl rfl

/-- the reference's Put -/
theorem refput_callsF (A : Option Addr) (c : Nat) (l : List Int) (at_ width v : Int) (w : World) (hs : Sl w .u8 A l) (hm : l.length ≤ 1000000000) (hnil : A = none → c = 0) (hx : -9223372036854775808 ≤ at_ ∧ at_ ≤ 9223372036854775807) (h0 : 0 ≤ v) (h1 : v < 18446744073709551616) :
    Calls Try.prog 116 #[.slice A l.length c, .int .i64 at_, .int .i64 width, .int .u64 v] w (BtsF w (putC l at_ width v).1 (putC l at_ width v).2) := by
  unfold putC
  by_cases ht : there l.length at_ width
  · rw [if_pos ht]
    by_cases hv : width < 8 ∧ v / 2 ^ (8 * width.toNat) ≠ 0
    · rw [if_pos hv]; exact (refput_field A c l at_ width v w hs hm hnil ht h0 h1 hv).mono fun _ _ h => h.f (by decide)
    · rw [if_neg hv]; exact refput_okF A c l at_ width v w hs hm hnil ht h0 h1 hv
  · rw [if_neg ht]; exact (refput_same A c l at_ width v w hs hm hnil hx ht).mono fun _ _ h => h.f (by decide)
theorem refput_calls (A : Option Addr) (c : Nat) (l : List Int) (at_ width v : Int) (w : World) (hs : Sl w .u8 A l) (hm : l.length ≤ 1000000000) (hnil : A = none → c = 0) (hx : -9223372036854775808 ≤ at_ ∧ at_ ≤ 9223372036854775807) (h0 : 0 ≤ v) (h1 : v < 18446744073709551616) :
    Calls Try.prog 116 #[.slice A l.length c, .int .i64 at_, .int .i64 width, .int .u64 v] w (Bts w (putC l at_ width v).1 (putC l at_ width v).2) :=
  (refput_callsF A c l at_ width v w hs hm hnil hx h0 h1).mono fun _ _ h => h.bts
/-- the reference's GetPlace -/
theorem refgetplace_calls (A : Option Addr) (l : List Int) (cap : Nat) (at_ : Int) (w : World) (hs : Sl w .u8 A l) (hb : Bytes l) (hm : l.length ≤ 9223372036854775807) (hx : -9223372036854775808 ≤ at_ ∧ at_ ≤ 9223372036854775807) :
    Calls Try.prog 122 #[.slice A l.length cap, .int .i64 at_] w fun e w' => e = .returned (.tuple #[.int .i64 (getPlaceC l at_).1, .int .i64 (getPlaceC l at_).2]) ∧ w = w' := by
  have G := refget_calls A l cap at_ 4 w hs hb hm hx
  unfold getPlaceC
  unfold getC at G
  by_cases h : there l.length at_ 4
  · rw [if_pos h] at G
    rw [if_pos h]
    obtain ⟨r0, r1⟩ := le4 l hb at_
    have e4 : (4 : Int).toNat = 4 := rfl
    rw [e4] at G
    obtain ⟨x, ex⟩ : ∃ x, le ((l.drop at_.toNat).take 4) = x := ⟨_, rfl⟩
    rw [ex] at G r0 r1
    rw [ex]
    have H := Lib.hid G
    clear G h ex hs hb hx hm
    by_cases h1 : x = 4294967295
    · subst h1
      rw [if_pos rfl]
      go_enter Try.func122, Try.ntmps122
      go_wp2_with (go_at_call 123; refine H.out.mono ?_; rintro e w' ⟨rfl, rfl⟩)
      go_ret2
      exact ⟨rfl, rfl⟩
    · rw [if_neg h1]
      by_cases h2 : x ≥ 2147483648
      · rw [if_pos h2]
        go_enter Try.func122, Try.ntmps122
        go_wp2_with (go_at_call 123; refine H.out.mono ?_; rintro e w' ⟨rfl, rfl⟩)
        go_ret2
        exact ⟨rfl, rfl⟩
      · rw [if_neg h2]
        have hx2 : x < 2147483648 := by omega
        go_enter Try.func122, Try.ntmps122
        go_wp2_with (go_at_call 123; refine H.out.mono ?_; rintro e w' ⟨rfl, rfl⟩)
        go_ret2
        exact ⟨rfl, rfl⟩
  · rw [if_neg h] at G
    rw [if_neg h]
    have H := Lib.hid G
    clear G h hs hb hx hm
    go_enter Try.func122, Try.ntmps122
    go_wp2_with (go_at_call 123; refine H.out.mono ?_; rintro e w' ⟨rfl, rfl⟩)
    go_ret2
    exact ⟨rfl, rfl⟩
/-- the reference's PutPlace -/
theorem refputplace_callsF (A : Option Addr) (c : Nat) (l : List Int) (at_ place : Int) (w : World) (hs : Sl w .u8 A l) (hm : l.length ≤ 1000000000) (hnil : A = none → c = 0) (hx : -9223372036854775808 ≤ at_ ∧ at_ ≤ 9223372036854775807)
    (hp : -9223372036854775808 ≤ place ∧ place ≤ 9223372036854775807) :
    Calls Try.prog 117 #[.slice A l.length c, .int .i64 at_, .int .i64 place] w (BtsF w (putPlaceC l at_ place).1 (putPlaceC l at_ place).2) := by
  obtain ⟨p0, p1⟩ := hp
  by_cases ht : there l.length at_ 4
  · have H := Lib.hid (there_yes A l.length c at_ 4 w (by omega) ht)
    by_cases h : place < -1 ∨ place > 2147483647
    · have e : putPlaceC l at_ place = (l, 6) := by unfold putPlaceC; rw [if_pos ht, if_pos h]
      rw [e]
      have R : Hid (∀ e w', e = Ending.returned (.tuple #[.slice A l.length c, .int .i64 6]) → w = w' → BtsF w l 6 e w') := fun e w' he hw => by
        subst hw; exact ⟨A, c, _, rfl, he, hs, Chg.refl _ w, hnil, (fun h => by cases h)⟩
      clear e hs hnil hx ht
      rcases h with h | h
      · go_enter Try.func117, Try.ntmps117
        go_wp2_with (go_at_call 125; refine H.out.mono ?_; rintro e w' ⟨rfl, rfl⟩)
        go_ret2
        exact R.out _ _ rfl rfl
      · have h' : ¬ place < -1 := by omega
        go_enter Try.func117, Try.ntmps117
        go_wp2_with (go_at_call 125; refine H.out.mono ?_; rintro e w' ⟨rfl, rfl⟩)
        go_ret2
        exact R.out _ _ rfl rfl
    · have e := putPlaceC_of l at_ place h
      have P := Lib.hid (refput_callsF A c l at_ 4 (place % 4294967296) w hs hm hnil hx (by omega) (by omega))
      rw [e]
      have q0 : -1 ≤ place := by omega
      have q1 : place ≤ 2147483647 := by omega
      have q2 : (IntKind.u64.wrap place).tmod 4294967296 = place % 4294967296 := by rw [u64_wrap, Int.tmod_eq_emod_of_nonneg (by omega)]; omega
      clear e hs hnil hx ht h p0 p1
      obtain ⟨X, eX⟩ : ∃ X, (putC l at_ 4 (place % 4294967296)).1 = X := ⟨_, rfl⟩
      obtain ⟨E, eE⟩ : ∃ E, (putC l at_ 4 (place % 4294967296)).2 = E := ⟨_, rfl⟩
      rw [eX, eE] at P ⊢
      clear eX eE
      go_enter Try.func117, Try.ntmps117
      go_wp2_with (first | (go_at_call 125; refine H.out.mono ?_; rintro e w' ⟨rfl, rfl⟩) | (go_at_call 116; refine P.out.mono ?_; rintro e w' ⟨A', c', n', hn', rfl, hs', hc', hz', hf'⟩; have R2 : Hid (∀ e, e = Ending.returned (.tuple #[.slice A' n' c', .int .i64 E]) → BtsF w X E e w') := (fun e he => ⟨A', c', n', hn', he, hs', hc', hz', hf'⟩); clear hn' hs' hc' hz' hf'))
      go_ret2
      exact R2.out _ rfl
  · have H := Lib.hid (there_not A l.length c at_ 4 w (by omega) hx ht)
    have e : putPlaceC l at_ place = (l, 1) := by unfold putPlaceC; rw [if_neg ht]
    rw [e]
    have R : Hid (∀ e w', e = Ending.returned (.tuple #[.slice A l.length c, .int .i64 1]) → w = w' → BtsF w l 1 e w') := fun e w' he hw => by
      subst hw; exact ⟨A, c, _, rfl, he, hs, Chg.refl _ w, hnil, (fun h => by cases h)⟩
    clear e hs hnil hx ht
    go_enter Try.func117, Try.ntmps117
    go_wp2_with (go_at_call 125; refine H.out.mono ?_; rintro e w' ⟨rfl, rfl⟩)
    go_ret2
    exact R.out _ _ rfl rfl

theorem refputplace_calls (A : Option Addr) (c : Nat) (l : List Int) (at_ place : Int) (w : World) (hs : Sl w .u8 A l) (hm : l.length ≤ 1000000000) (hnil : A = none → c = 0) (hx : -9223372036854775808 ≤ at_ ∧ at_ ≤ 9223372036854775807)
    (hp : -9223372036854775808 ≤ place ∧ place ≤ 9223372036854775807) :
    Calls Try.prog 117 #[.slice A l.length c, .int .i64 at_, .int .i64 place] w (Bts w (putPlaceC l at_ place).1 (putPlaceC l at_ place).2) :=
  (refputplace_callsF A c l at_ place w hs hm hnil hx hp).mono fun _ _ h => h.bts

end Go.Proofs.Ytolpjgpimholcaa.Codec
