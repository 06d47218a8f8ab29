/- The walks of the reference's codec: there, Get, Put, GetPlace, PutPlace. -/
import Derived.Test.YtolpjgpimholcaaCodec2
import Derived.Test.YtolpjgpimholcaaApp
namespace Go.Proofs.Ytolpjgpimholcaa.Codec
open Go.RowKit Go.Proofs.Ytolpjgpimholcaa.Mem Go.Proofs.Ytolpjgpimholcaa.CodecPure
set_option linter.unusedVariables false
set_option maxRecDepth 100000

theorem ret_true {p : Prop} [Decidable p] (h : p) : Ending.returned (.bool (decide p)) = Ending.returned (.bool true) := by rw [decide_eq_true h]
theorem ret_false {p : Prop} [Decidable p] (h : ¬ p) : Ending.returned (.bool (decide p)) = Ending.returned (.bool false) := by rw [decide_eq_false h]
theorem there_yes (A : Option Addr) (len cap : Nat) (at_ width : Int) (w : World) (hm : len ≤ 9223372036854775807) (h : there len at_ width) :
    Calls Try.prog 125 #[.slice A len cap, .int .i64 at_, .int .i64 width] w fun e w' => e = .returned (.bool true) ∧ w = w' := by
  obtain ⟨hw, h0, h1⟩ := h
  rcases hw with rfl | rfl | rfl | rfl
  all_goals
    go_enter Try.func125, Try.ntmps125
    go_wp2
    go_ret
    exact ⟨ret_true (by omega), rfl⟩
theorem there_not (A : Option Addr) (len cap : Nat) (at_ width : Int) (w : World) (hm : len ≤ 9223372036854775807) (hx : -9223372036854775808 ≤ at_ ∧ at_ ≤ 9223372036854775807) (h : ¬ there len at_ width) :
    Calls Try.prog 125 #[.slice A len cap, .int .i64 at_, .int .i64 width] w fun e w' => e = .returned (.bool false) ∧ w = w' := by
  obtain ⟨hx0, hx1⟩ := hx
  by_cases hw : Wd width
  · have h' : at_ < 0 ∨ at_ + width > len := by unfold there at h; unfold Wd at hw; omega
    clear h
    rcases hw with rfl | rfl | rfl | rfl
    all_goals
      by_cases h0 : at_ < 0
      · clear h'
        go_enter Try.func125, Try.ntmps125
        go_wp2
        go_ret
        exact ⟨rfl, rfl⟩
      · by_cases h1 : at_ > len
        · clear h'
          go_enter Try.func125, Try.ntmps125
          go_wp2
          go_ret
          exact ⟨rfl, rfl⟩
        · have h3 := h'.resolve_left h0
          clear h'
          go_enter Try.func125, Try.ntmps125
          go_wp2
          go_ret
          exact ⟨ret_false (by omega), rfl⟩
  · have e1 : ¬ width = 1 := fun e => hw (.inl e)
    have e2 : ¬ width = 2 := fun e => hw (.inr (.inl e))
    have e4 : ¬ width = 4 := fun e => hw (.inr (.inr (.inl e)))
    have e8 : ¬ width = 8 := fun e => hw (.inr (.inr (.inr e)))
    clear hw h
    go_enter Try.func125, Try.ntmps125
    go_wp2
    go_ret
    exact ⟨rfl, rfl⟩
theorem le_drop (p : List Int) (i : Nat) (h : i < p.length) : le (p.drop i) = p.getD i 0 + 256 * le (p.drop (i + 1)) := by
  rw [List.drop_eq_getElem_cons h]
  simp only [le]
  rw [List.getD_eq_getElem?_getD, List.getElem?_eq_getElem h]; rfl
theorem le_most (p : List Int) (hb : Bytes p) (hl : p.length ≤ 8) : 0 ≤ le p ∧ le p < 18446744073709551616 := by
  have h := le_range p hb
  have key : ∀ m : Fin 9, (2 : Int) ^ (8 * m.val) ≤ 18446744073709551616 := by decide +kernel
  exact ⟨h.1, Int.lt_of_lt_of_le h.2 (key ⟨p.length, by omega⟩)⟩
theorem refget_calls (A : Option Addr) (l : List Int) (cap : Nat) (at_ width : Int) (w : World) (hs : Sl w .u8 A l) (hb : Bytes l) (hm : l.length ≤ 9223372036854775807) (hx : -9223372036854775808 ≤ at_ ∧ at_ ≤ 9223372036854775807) :
    Calls Try.prog 123 #[.slice A l.length cap, .int .i64 at_, .int .i64 width] w fun e w' => e = .returned (.tuple #[.int .u64 (getC l at_ width).1, .int .i64 (getC l at_ width).2]) ∧ w = w' := by
  by_cases h : there l.length at_ width
  · have e : getC l at_ width = (le ((l.drop at_.toNat).take width.toNat), 0) := by unfold getC; rw [if_pos h]
    rw [e]
    clear e
    have H := Lib.hid (there_yes A l.length cap at_ width w hm h)
    obtain ⟨p, ep⟩ : ∃ p, (l.drop at_.toNat).take width.toNat = p := ⟨_, rfl⟩
    have hl : Hid (p.length = width.toNat) := by
      rw [← ep, Hid, List.length_take, List.length_drop]
      have := h.2
      have := h.1
      omega
    have w8 : 1 ≤ width ∧ width ≤ 8 := by have := h.1; omega
    obtain ⟨b1, b2⟩ := w8
    have hp : Hid (∀ i : Int, 0 ≤ i → i < width → ∃ ad, A = some ad ∧ w.cell? (ad.add (at_ + i).toNat) = some (.int .u8 (p.getD i.toNat 0))) := by
      intro i i0 i1
      obtain ⟨a, e, c⟩ := hs (at_.toNat + i.toNat) (by have := h.2; omega)
      refine ⟨a, e, ?_⟩
      have e2 : (at_ + i).toNat = at_.toNat + i.toNat := by have := h.2; omega
      rw [e2, c, ← ep]
      congr 2
      simp [List.getD_eq_getElem?_getD, show i.toNat < width.toNat by omega]
    have hbp : Hid (Bytes p) := fun x hx => hb x (List.mem_of_mem_drop (List.mem_of_mem_take (ep ▸ hx)))
    have h0 := h.2.1
    have h1 := h.2.2
    rw [ep]
    clear ep hs hb h
    go_enter Try.func123, Try.ntmps123
    go_wp2_with (go_at_call 125; refine H.out.mono ?_; rintro e w' ⟨rfl, rfl⟩)
    go_loop [8, 9] (fun v i => ∃ k y : Int, -1 ≤ k ∧ k < width ∧ i = .int .i64 k ∧ v = .int .u64 y ∧ Hid (y = le (p.drop (k + 1).toNat))) (fun _ i => (intOf i + 1).toNat)
    case atStart => exact ⟨width - 1, 0, by omega, by omega, rfl, rfl, by
      show _ = _
      have e : (width - 1 + 1).toNat = p.length := by have := hl.out; omega
      rw [e, List.drop_length]; rfl⟩
    case round =>
      obtain ⟨k, y, k0, k1, rfl, rfl, Y⟩ := hrel
      by_cases hlt : 0 ≤ k
      · obtain ⟨ad, rfl, hc⟩ := hp.out k hlt k1
        obtain ⟨x, ex⟩ : ∃ x, p.getD k.toNat 0 = x := ⟨_, rfl⟩
        rw [ex] at hc
        have st := le_drop p k.toNat (by have := hl.out; omega)
        have e1 : (k + 1).toNat = k.toNat + 1 := by omega
        have bd := le_most (p.drop k.toNat) (fun z hz => hbp.out z (List.mem_of_mem_drop hz)) (by rw [List.length_drop]; have := hl.out; omega)
        have bd2 := le_most (p.drop (k.toNat + 1)) (fun z hz => hbp.out z (List.mem_of_mem_drop hz)) (by rw [List.length_drop]; have := hl.out; omega)
        have hxx : 0 ≤ x ∧ x ≤ 255 := by
          rw [← ex, List.getD_eq_getElem?_getD, List.getElem?_eq_getElem (by have := hl.out; omega)]
          exact hbp.out _ (List.getElem_mem _)
        have Y1 := Y.out
        rw [e1] at Y1
        rw [ex, ← Y1] at st
        rw [st] at bd
        rw [← Y1] at bd2
        obtain ⟨c1, c2⟩ := bd
        obtain ⟨d1, d2⟩ := bd2
        obtain ⟨f1, f2⟩ := hxx
        have ST := Lib.hid st
        clear ex e1 Y1 st
        go_wp2
        go_round
        case rel => exact ⟨k - 1, 256 * y + x, by omega, by omega, by go_num, by go_num, by
          show _ = _
          have e : (k - 1 + 1).toNat = k.toNat := by omega
          rw [e, ST.out]; omega⟩
        case measure => simp [intOf]; omega
      · obtain rfl : k = -1 := by omega
        have Y2 : Hid (y = le p) := by have := Y.out; exact this
        go_wp2
        go_ret2
        exact ⟨by rw [← Y2.out]; rfl, rfl⟩
  · have e : getC l at_ width = (0, 1) := by unfold getC; rw [if_neg h]
    rw [e]
    have H := Lib.hid (there_not A l.length cap at_ width w hm hx h)
    clear e h hx hs hb
    go_enter Try.func123, Try.ntmps123
    go_wp2_with (go_at_call 125; refine H.out.mono ?_; rintro e w' ⟨rfl, rfl⟩)
    go_ret2
    exact ⟨rfl, rfl⟩

theorem infoByte : (Try.prog.info? 5).map (fun i => (i.zero, i.size, i.bytes)) = some (some (.int .u8 0), 1, 1) := by kernel_rfl
/-- an answer of two parts: bytes, somewhere, and an error; nothing that was there has turned -/
def Bts (w : World) (l : List Int) (err : Int) (e : Ending) (w' : World) : Prop :=
  ∃ A c n, n = l.length ∧ e = .returned (.tuple #[.slice A n c, .int .i64 err]) ∧ Sl w' .u8 A l ∧ Chg (fun b => w.heap.size ≤ b) w w' ∧ (A = none → c = 0)
/-- as Bts, and bytes that were laid lie in a new row -/
def BtsF (w : World) (l : List Int) (err : Int) (e : Ending) (w' : World) : Prop :=
  ∃ A c n, n = l.length ∧ e = .returned (.tuple #[.slice A n c, .int .i64 err]) ∧ Sl w' .u8 A l ∧ Chg (fun b => w.heap.size ≤ b) w w' ∧ (A = none → c = 0) ∧ (err = 0 → ∀ ad, A = some ad → w.heap.size ≤ ad.block)
theorem BtsF.bts {w w' : World} {l : List Int} {err : Int} {e : Ending} (h : BtsF w l err e w') : Bts w l err e w' := by
  obtain ⟨A, c, n, h1, h2, h3, h4, h5, _⟩ := h
  exact ⟨A, c, n, h1, h2, h3, h4, h5⟩
theorem Bts.f {w w' : World} {l : List Int} {err : Int} {e : Ending} (h : Bts w l err e w') (h0 : err ≠ 0) : BtsF w l err e w' := by
  obtain ⟨A, c, n, h1, h2, h3, h4, h5⟩ := h
  exact ⟨A, c, n, h1, h2, h3, h4, h5, fun e => absurd e h0⟩
theorem refput_same (A : Option Addr) (c : Nat) (l : List Int) (at_ width v : Int) (w : World) (hs : Sl w .u8 A l) (hm : l.length ≤ 1000000000) (hnil : A = none → c = 0) (hx : -9223372036854775808 ≤ at_ ∧ at_ ≤ 9223372036854775807) (h : ¬ there l.length at_ width) :
    Calls Try.prog 116 #[.slice A l.length c, .int .i64 at_, .int .i64 width, .int .u64 v] w (Bts w l 1) := by
  have H := Lib.hid (there_not A l.length c at_ width w (by omega) hx h)
  have R : Hid (∀ e w', e = Ending.returned (.tuple #[.slice A l.length c, .int .i64 1]) → w = w' → Bts w l 1 e w') := fun e w' he hw => by
    subst hw; exact ⟨A, c, _, rfl, he, hs, Chg.refl _ w, hnil⟩
  clear h hx hs hnil
  go_enter Try.func116, Try.ntmps116
  go_wp2_with (go_at_call 125; refine H.out.mono ?_; rintro e w' ⟨rfl, rfl⟩)
  go_ret2
  exact R.out _ _ rfl rfl
theorem refput_field (A : Option Addr) (c : Nat) (l : List Int) (at_ width v : Int) (w : World) (hs : Sl w .u8 A l) (hm : l.length ≤ 1000000000) (hnil : A = none → c = 0) (h : there l.length at_ width) (h0 : 0 ≤ v) (h1 : v < 18446744073709551616)
    (hv : width < 8 ∧ v / 2 ^ (8 * width.toNat) ≠ 0) :
    Calls Try.prog 116 #[.slice A l.length c, .int .i64 at_, .int .i64 width, .int .u64 v] w (Bts w l 6) := by
  have H := Lib.hid (there_yes A l.length c at_ width w (by omega) h)
  have R : Hid (∀ e w', e = Ending.returned (.tuple #[.slice A l.length c, .int .i64 6]) → w = w' → Bts w l 6 e w') := fun e w' he hw => by
    subst hw; exact ⟨A, c, _, rfl, he, hs, Chg.refl _ w, hnil⟩
  obtain ⟨hw8, hne⟩ := hv
  have hw3 : width = 1 ∨ width = 2 ∨ width = 4 := by have := h.1; omega
  clear hs hnil h
  rcases hw3 with rfl | rfl | rfl
  · have t : (v / 256 != 0) = true := by simpa using hne
    clear hne
    go_enter Try.func116, Try.ntmps116
    go_wp2_with (go_at_call 125; refine H.out.mono ?_; rintro e w' ⟨rfl, rfl⟩)
    go_ret2
    exact R.out _ _ rfl rfl
  · have t : (v / 65536 != 0) = true := by simpa using hne
    clear hne
    go_enter Try.func116, Try.ntmps116
    go_wp2_with (go_at_call 125; refine H.out.mono ?_; rintro e w' ⟨rfl, rfl⟩)
    go_ret2
    exact R.out _ _ rfl rfl
  · have t : (v / 4294967296 != 0) = true := by simpa using hne
    clear hne
    go_enter Try.func116, Try.ntmps116
    go_wp2_with (go_at_call 125; refine H.out.mono ?_; rintro e w' ⟨rfl, rfl⟩)
    go_ret2
    exact R.out _ _ rfl rfl
theorem div_next (v : Int) (k : Nat) : v / 2 ^ (8 * k) / 256 = v / 2 ^ (8 * (k + 1)) := by
  rw [Int.ediv_ediv_of_nonneg (Int.le_of_lt (two_pos _)), p256, Int.mul_comm]
theorem refput_okF (A : Option Addr) (c : Nat) (l : List Int) (at_ width v : Int) (w : World) (hs : Sl w .u8 A l) (hm : l.length ≤ 1000000000) (hnil : A = none → c = 0) (h : there l.length at_ width) (h0 : 0 ≤ v) (h1 : v < 18446744073709551616)
    (hv : ¬ (width < 8 ∧ v / 2 ^ (8 * width.toNat) ≠ 0)) :
    Calls Try.prog 116 #[.slice A l.length c, .int .i64 at_, .int .i64 width, .int .u64 v] w (BtsF w (splice l at_.toNat (leb v width.toNat)) 0) := by
  have H := Lib.hid (there_yes A l.length c at_ width w (by omega) h)
  have HS := Lib.hid hs
  have HN := Lib.hid hnil
  have w8 : 1 ≤ width ∧ width ≤ 8 := by have := h.1; omega
  obtain ⟨b1, b2⟩ := w8
  have a0 := h.2.1
  have a1 := h.2.2
  have HW := Lib.hid h.1
  have HV := Lib.hid hv
  clear hs hnil hv h
  have fits : Hid (width = 8 ∨ width = 1 ∧ v / 256 = 0 ∨ width = 2 ∧ v / 65536 = 0 ∨ width = 4 ∧ v / 4294967296 = 0) := by
    have hv := HV.out
    rcases HW.out with rfl | rfl | rfl | rfl
    · right; left; exact ⟨rfl, Classical.byContradiction fun e => hv ⟨by decide, e⟩⟩
    · right; right; left; exact ⟨rfl, Classical.byContradiction fun e => hv ⟨by decide, e⟩⟩
    · right; right; right; exact ⟨rfl, Classical.byContradiction fun e => hv ⟨by decide, e⟩⟩
    · left; rfl
  obtain ⟨n, en⟩ : ∃ n : Nat, width.toNat = n := ⟨_, rfl⟩
  have en2 : width = n := by omega
  have EN := Lib.hid en2
  rw [en]
  have hl := Lib.hid (leb_length n v)
  clear HW HV en en2
  rcases fits.out with rfl | ⟨rfl, t⟩ | ⟨rfl, t⟩ | ⟨rfl, t⟩
  all_goals
    go_enter Try.func116, Try.ntmps116
    go_wp2_with (first | (go_at_call 125; refine H.out.mono ?_; rintro e w' ⟨rfl, rfl⟩) | (at_builtin; refine wpList_app rfl _ _ 52 rfl w.heap.size 5 .u8 1 Try.underlying52 infoByte _ [] rfl (Own.lit w 5 .u8 [] (Nat.zero_le _)) A _ c l rfl rfl (HS.out.later (Chg.alloc _ w _) (Nat.le_refl _)) HN.out ?h63 ?hby ?hba ?_; (case h63 => unfold maxLen; simp; omega); (case hby => simp; omega); (case hba => simp); intro A' c' n' w3 hn' hown hchg; obtain ⟨g, cs, rfl, hg, hB, rfl, hl1, hl2, hl3, hcell⟩ := Own.blk (l := l) hown (by omega); have HG := Lib.hid hg; have HB := Lib.hid hB; have HC := Lib.hid hcell; have CH : Hid (Chg (fun b => w.heap.size ≤ b) w w3) := (Chg.alloc _ w _).trans hchg; have HL2 := Lib.hid hl2; clear hn' hown hchg hg hB hcell hl2))
    go_loopw [3, 11] (fun u i wr => ∃ (k : Nat) (y : Int), k ≤ n ∧ i = .int .i64 k ∧ u = .int .u64 y ∧ 0 ≤ y ∧ y < 18446744073709551616 ∧ Hid (y = v / 2 ^ (8 * k)) ∧ Hid (wr = w3.setRow g (splice cs at_.toNat (nums .u8 ((leb v n).take k))).toArray)) (fun _ i _ => n - (intOf i).toNat)
    case atStart => exact ⟨0, v, Nat.zero_le _, rfl, rfl, h0, h1, (Int.ediv_one v).symm, by
      show w3 = _
      rw [List.take_zero]
      show w3 = w3.setRow g (splice cs at_.toNat []).toArray
      rw [splice_none, setRow_same HB.out]⟩
    case round =>
      obtain ⟨k, y, hk, rfl, rfl, y0, y1, Y, R⟩ := hrel
      have hb : wr.heap[g]? = some (.cells (splice cs at_.toNat (nums .u8 ((leb v n).take k))).toArray 5 (0, 0)) := by rw [R.out]; exact setRow_heap w3 g _ _ _ (0, 0) HB.out
      have en := EN.out
      by_cases hlt : k < n
      · have hsz : (splice cs at_.toNat (nums .u8 ((leb v n).take k))).length = cs.length := length_splice _ _ _ (by rw [nums_length, List.length_take]; omega)
        have hc1 : ∃ u, wr.cell? ⟨g, (at_ + (k : Int)).toNat, none⟩ = some u := ⟨_, by rw [blk_cell hb, List.getElem?_toArray, List.getElem?_eq_getElem (by omega)]⟩
        obtain ⟨u, hc1⟩ := hc1
        have hf1 : wr.frozen? ⟨g, (at_ + (k : Int)).toNat, none⟩ = false := blk_frozen hb _
        have HB2 := Lib.hid hb
        have hkw : (k : Int) < n := by omega
        rw [← en] at hkw
        clear hb hsz en
        go_wp2
        go_roundw
        case rel => exact ⟨k + 1, y / 256, hlt, by go_num, by go_num, by omega, by omega, by show _ = _; rw [Y.out, div_next], by
          show _ = _
          have e1 : (at_ + (k : Int)).toNat = at_.toNat + k := by omega
          rw [e1, setCell_row HB2.out, R.out, setRow_twice]
          congr 1
          rw [List.setIfInBounds_toArray, Y.out, ← leb_get n v k hlt, splice_step .u8 cs at_.toNat k (leb v n) (by have := hl.out; omega) (by have := hl.out; have := EN.out; omega)]⟩
        case measure => simp [intOf]; omega
      · have hkw : ¬ (k : Int) < n := by omega
        rw [← en] at hkw
        obtain rfl : k = n := by omega
        have T2 : Hid ((leb v k).take k = leb v k) := List.take_of_length_le (by have := hl.out; omega)
        have fin : Hid (∀ e w', e = Ending.returned (.tuple #[.slice (some ⟨g, 0, none⟩) l.length c', .int .i64 0]) → wr = w' → BtsF w (splice l at_.toNat (leb v k)) 0 e w') := fun e w' he hw => by
          subst hw
          rw [T2.out] at hb
          refine ⟨some ⟨g, 0, none⟩, c', _, ?_, he, ?_, ?_, (fun h => by cases h), (fun _ ad e => by cases e; exact HG.out)⟩
          · rw [length_splice]
            have := hl.out
            omega
          · have hlen : (splice l at_.toNat (leb v k)).length = l.length := length_splice _ _ _ (by have := hl.out; omega)
            intro j hj
            refine ⟨_, rfl, ?_⟩
            rw [add_plain, blk_cell hb, List.getElem?_toArray]
            have := splice_cells .u8 cs 0 at_.toNat l (leb v k) (by omega) (by have := hl.out; omega) (fun j hj => by rw [Nat.zero_add]; exact HC.out j hj) j (by omega)
            simp only [Nat.zero_add] at this ⊢
            exact this
          · rw [R.out]
            exact CH.out.trans (Chg.setRow w3 g _ HG.out)
        clear hb en
        go_wp2
        go_ret2
        exact fin.out _ _ rfl rfl

end Go.Proofs.Ytolpjgpimholcaa.Codec
