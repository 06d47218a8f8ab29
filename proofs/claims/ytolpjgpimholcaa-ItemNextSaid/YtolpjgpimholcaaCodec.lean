/- The walks of codec: part, Get, Put, GetPlace, PutPlace: what each answers, and what it writes. -/
import Derived.Test.YtolpjgpimholcaaChecked
import Derived.Test.YtolpjgpimholcaaMem
import Derived.Test.YtolpjgpimholcaaWrap
import Derived.Test.YtolpjgpimholcaaCodecPure
import Derived.WalkLawsBesides
import Derived.Lib.Hide
namespace Go.Proofs.Ytolpjgpimholcaa.Codec
open Go.RowKit Go.Proofs.Ytolpjgpimholcaa.Mem Go.Proofs.Ytolpjgpimholcaa.CodecPure
set_option linter.unusedVariables false
set_option maxRecDepth 100000

/-- one of the four widths -/
def Wd (width : Int) : Prop := width = 1 ∨ width = 2 ∨ width = 4 ∨ width = 8
theorem part_ret (ad : Addr) (i n : Nat) (h : i = n) : Ending.returned (.tuple #[.slice (some ad) i i, .bool true]) = Ending.returned (.tuple #[.slice (some ad) n n, .bool true]) := by rw [h]
theorem part_ok (ad : Addr) (len cap : Nat) (at_ width : Int) (w : World) (hc : len ≤ cap) (hm : cap ≤ 9223372036854775807) (hw : Wd width) (h0 : 0 ≤ at_) (h1 : at_ + width ≤ len) :
    Calls Try.prog 112 #[.slice (some ad) len cap, .int .i64 at_, .int .i64 width] w fun e w' => e = .returned (.tuple #[.slice (some (ad.add at_.toNat)) width.toNat width.toNat, .bool true]) ∧ w = w' := by
  rcases hw with rfl | rfl | rfl | rfl
  all_goals
    go_enter Try.func112, Try.ntmps112
    go_wp2
    go_ret2
    exact ⟨part_ret _ _ _ (by omega), rfl⟩

theorem part_no (A : Option Addr) (len cap : Nat) (at_ width : Int) (w : World) (hm : len ≤ 9223372036854775807) (hx : -9223372036854775808 ≤ at_ ∧ at_ ≤ 9223372036854775807) (h : ¬ there len at_ width) :
    Calls Try.prog 112 #[.slice A len cap, .int .i64 at_, .int .i64 width] w fun e w' => e = .returned (.tuple #[.slice none 0 0, .bool false]) ∧ w = w' := by
  obtain ⟨hx0, hx1⟩ := hx
  by_cases hw : Wd width
  · have h' : at_ < 0 ∨ at_ + width > len := by unfold there at h; unfold Wd at hw; omega
    clear h
    rcases hw with rfl | rfl | rfl | rfl
    all_goals
      by_cases h0 : at_ < 0
      · clear h'
        go_enter Try.func112, Try.ntmps112
        go_wp2
        go_ret2
        exact ⟨rfl, rfl⟩
      · by_cases h1 : at_ > len
        · clear h'
          go_enter Try.func112, Try.ntmps112
          go_wp2
          go_ret2
          exact ⟨rfl, rfl⟩
        · have h3 := h'.resolve_left h0
          clear h'
          go_enter Try.func112, Try.ntmps112
          go_wp2
          go_ret2
          exact ⟨rfl, rfl⟩
  · have e1 : ¬ width = 1 := fun e => hw (.inl e)
    have e2 : ¬ width = 2 := fun e => hw (.inr (.inl e))
    have e4 : ¬ width = 4 := fun e => hw (.inr (.inr (.inl e)))
    have e8 : ¬ width = 8 := fun e => hw (.inr (.inr (.inr e)))
    clear hw h
    go_enter Try.func112, Try.ntmps112
    go_wp2
    go_ret2
    exact ⟨rfl, rfl⟩

theorem get_no (A : Option Addr) (len cap : Nat) (at_ width : Int) (w : World) (hm : len ≤ 9223372036854775807) (hx : -9223372036854775808 ≤ at_ ∧ at_ ≤ 9223372036854775807) (h : ¬ there len at_ width) :
    Calls Try.prog 97 #[.slice A len cap, .int .i64 at_, .int .i64 width] w fun e w' => e = .returned (.tuple #[.int .u64 0, .int .i64 1]) ∧ w = w' := by
  have H := Lib.hid (part_no A len cap at_ width w hm hx h)
  clear h hx
  go_enter Try.func97, Try.ntmps97
  go_wp2_with (go_at_call 112; refine H.out.mono ?_; rintro e w' ⟨rfl, rfl⟩)
  go_ret2
  exact ⟨rfl, rfl⟩
theorem get_ok (ad : Addr) (l : List Int) (cap : Nat) (at_ width : Int) (w : World) (hs : Sl w .u8 (some ad) l) (hb : Bytes l) (hc : l.length ≤ cap) (hm : cap ≤ 9223372036854775807) (h : there l.length at_ width) :
    Calls Try.prog 97 #[.slice (some ad) l.length cap, .int .i64 at_, .int .i64 width] w fun e w' => e = .returned (.tuple #[.int .u64 (le ((l.drop at_.toNat).take width.toNat)), .int .i64 0]) ∧ w = w' := by
  have H := Lib.hid (part_ok ad l.length cap at_ width w hc hm h.1 h.2.1 h.2.2)
  obtain ⟨p, ep⟩ : ∃ p, (l.drop at_.toNat).take width.toNat = p := ⟨_, rfl⟩
  obtain ⟨n, en⟩ : ∃ n, width.toNat = n := ⟨_, rfl⟩
  obtain ⟨ad', ea⟩ : ∃ x, ad.add at_.toNat = x := ⟨_, rfl⟩
  have hn : n ≤ 8 := by have := h.1; unfold there at h; omega
  have hl : Hid (p.length = n) := by
    rw [← ep, ← en, Hid, List.length_take, List.length_drop]
    have := h.2
    omega
  have hp : Hid (∀ k, k < n → w.cell? (ad'.add k) = some (.int .u8 (p.getD k 0))) := by
    intro k hk
    obtain ⟨a, e, c⟩ := hs (at_.toNat + k) (by have := h.2; omega)
    cases e
    rw [← ea, add_add, c, ← ep]
    congr 2
    simp [List.getD_eq_getElem?_getD, en, hk]
  have hbp : Hid (Bytes p) := fun x hx => hb x (List.mem_of_mem_drop (List.mem_of_mem_take (ep ▸ hx)))
  rw [ep]
  rw [en, ea] at H
  have h0 := h.2.1
  clear ep en ea hs hb hc h
  go_enter Try.func97, Try.ntmps97
  go_wp2_with (go_at_call 112; refine H.out.mono ?_; rintro e w' ⟨rfl, rfl⟩)
  go_loop [10, 24] (fun v i => ∃ k : Nat, k ≤ n ∧ i = .int .i64 k ∧ v = .int .u64 (le (p.take k))) (fun _ i => n - (intOf i).toNat)
  case atStart => exact ⟨0, Nat.zero_le _, rfl, rfl⟩
  case round =>
    obtain ⟨k, hk, rfl, rfl⟩ := hrel
    by_cases hlt : k < n
    · obtain ⟨x, ex⟩ : ∃ x, p.getD k 0 = x := ⟨_, rfl⟩
      have hc := hp.out k hlt
      rw [ex] at hc
      have hx : 0 ≤ x ∧ x ≤ 255 := by
        rw [← ex, List.getD_eq_getElem?_getD, List.getElem?_eq_getElem (by have := hl.out; omega)]
        exact hbp.out _ (List.getElem_mem _)
      obtain ⟨hx0, hx1⟩ := hx
      have X := Lib.hid ex
      clear ex
      go_wp2
      go_round
      case rel => exact ⟨k + 1, hlt, by go_num, by rw [or_byte (le (p.take k)) x k (by omega) (le_take_range p k (by have := hl.out; omega) hbp.out) ⟨hx0, hx1⟩, le_take p k (by have := hl.out; omega), X.out]⟩
      case measure => simp [intOf]; omega
    · obtain rfl : k = n := by omega
      have T : Hid (p.take k = p) := List.take_of_length_le (by have := hl.out; omega)
      go_wp2
      go_ret2
      exact ⟨by rw [T.out]; rfl, rfl⟩

/-- the program's Get, of any bytes -/
theorem get_calls (A : Option Addr) (l : List Int) (cap : Nat) (at_ width : Int) (w : World) (hs : Sl w .u8 A l) (hb : Bytes l) (hc : l.length ≤ cap) (hm : cap ≤ 9223372036854775807) (hx : -9223372036854775808 ≤ at_ ∧ at_ ≤ 9223372036854775807) :
    Calls Try.prog 97 #[.slice A l.length cap, .int .i64 at_, .int .i64 width] w fun e w' => e = .returned (.tuple #[.int .u64 (getC l at_ width).1, .int .i64 (getC l at_ width).2]) ∧ w = w' := by
  by_cases h : there l.length at_ width
  · have e : getC l at_ width = (le ((l.drop at_.toNat).take width.toNat), 0) := by unfold getC; rw [if_pos h]
    rw [e]
    obtain ⟨ad, rfl, _⟩ := hs 0 (by have := h.1; have := h.2; omega)
    exact get_ok ad l cap at_ width w hs hb hc hm h
  · have e : getC l at_ width = (0, 1) := by unfold getC; rw [if_neg h]
    rw [e]
    exact get_no A l.length cap at_ width w (by omega) hx h
theorem put_no (A : Option Addr) (len cap : Nat) (at_ width v : Int) (w : World) (hm : len ≤ 9223372036854775807) (hx : -9223372036854775808 ≤ at_ ∧ at_ ≤ 9223372036854775807) (h : ¬ there len at_ width) :
    Calls Try.prog 95 #[.slice A len cap, .int .i64 at_, .int .i64 width, .int .u64 v] w fun e w' => e = .returned (.int .i64 1) ∧ w = w' := by
  have H := Lib.hid (part_no A len cap at_ width w hm hx h)
  clear h hx
  go_enter Try.func95, Try.ntmps95
  go_wp2_with (go_at_call 112; refine H.out.mono ?_; rintro e w' ⟨rfl, rfl⟩)
  go_ret
  exact ⟨rfl, rfl⟩
/-- ints.Wrap at eight times a width -/
theorem wrap_width (width v : Int) (w : World) (hw : Wd width) (h0 : 0 ≤ v) (h1 : v < 18446744073709551616) :
    Calls Try.prog 113 #[.int .u64 v, .int .i64 (8 * width)] w fun e w' => e = .returned (.tuple #[.int .u64 (v % 2 ^ (8 * width.toNat)), .int .i64 0]) ∧ w = w' := by
  rcases hw with rfl | rfl | rfl | rfl
  · exact Wrap.wrap8 v w h0 h1
  · exact Wrap.wrap16 v w h0 h1
  · exact Wrap.wrap32_ v w h0 h1
  · have e : v % 2 ^ (8 * (8 : Int).toNat) = v := Int.emod_eq_of_lt h0 (by have h64 : (2 : Int) ^ (8 * (8 : Int).toNat) = 18446744073709551616 := (by decide +kernel); rw [h64]; exact h1)
    rw [e]
    exact Wrap.wrap64_ v w h0 h1
/-- does the number not fit its width? -/
theorem fit_iff (width v : Int) (hw : Wd width) (h0 : 0 ≤ v) (h1 : v < 18446744073709551616) : (width < 8 ∧ v / 2 ^ (8 * width.toNat) ≠ 0) ↔ v % 2 ^ (8 * width.toNat) ≠ v := by
  rcases hw with rfl | rfl | rfl | rfl
  · show ((1 : Int) < 8 ∧ v / 256 ≠ 0) ↔ v % 256 ≠ v
    omega
  · show ((2 : Int) < 8 ∧ v / 65536 ≠ 0) ↔ v % 65536 ≠ v
    omega
  · show ((4 : Int) < 8 ∧ v / 4294967296 ≠ 0) ↔ v % 4294967296 ≠ v
    omega
  · have h64 : (2 : Int) ^ (8 * (8 : Int).toNat) = 18446744073709551616 := (by decide +kernel)
    rw [h64]
    omega
theorem put_field (ad : Addr) (len cap : Nat) (at_ width v : Int) (w : World) (hc : len ≤ cap) (hm : cap ≤ 9223372036854775807) (h : there len at_ width) (h0 : 0 ≤ v) (h1 : v < 18446744073709551616) (hv : width < 8 ∧ v / 2 ^ (8 * width.toNat) ≠ 0) :
    Calls Try.prog 95 #[.slice (some ad) len cap, .int .i64 at_, .int .i64 width, .int .u64 v] w fun e w' => e = .returned (.int .i64 6) ∧ w = w' := by
  have H := Lib.hid (part_ok ad len cap at_ width w hc hm h.1 h.2.1 h.2.2)
  have Wp := wrap_width width v w h.1 h0 h1
  have ne := (fit_iff width v h.1 h0 h1).1 hv
  obtain ⟨u, eu⟩ : ∃ u, v % 2 ^ (8 * width.toNat) = u := ⟨_, rfl⟩
  rw [eu] at Wp ne
  have WP := Lib.hid Wp
  have t : (u != v) = true := by simpa using ne
  have b0 : 1 ≤ width ∧ width ≤ 8 := by have := h.1; omega
  obtain ⟨b1, b2⟩ := b0
  clear h hv eu Wp ne
  go_enter Try.func95, Try.ntmps95
  go_wp2_with (first | (go_at_call 112; refine H.out.mono ?_; rintro e w' ⟨rfl, rfl⟩) | (go_at_call 113; refine WP.out.mono ?_; rintro e w' ⟨rfl, rfl⟩))
  go_ret
  exact ⟨rfl, rfl⟩
theorem put_ok (B o : Nat) (len cap : Nat) (T : TypeId) (cs : List Value) (at_ width v : Int) (w : World) (hB : w.heap[B]? = some (.cells cs.toArray T (0, 0))) (hf : o + len ≤ cs.length) (hc : len ≤ cap) (hm : cap ≤ 9223372036854775807)
    (h : there len at_ width) (h0 : 0 ≤ v) (h1 : v < 18446744073709551616) (hv : ¬ (width < 8 ∧ v / 2 ^ (8 * width.toNat) ≠ 0)) :
    Calls Try.prog 95 #[.slice (some ⟨B, o, none⟩) len cap, .int .i64 at_, .int .i64 width, .int .u64 v] w fun e w' => e = .returned (.int .i64 0) ∧ w' = w.setRow B (splice cs (o + at_.toNat) (nums .u8 (leb v width.toNat))).toArray := by
  have H0 := part_ok ⟨B, o, none⟩ len cap at_ width w hc hm h.1 h.2.1 h.2.2
  rw [add_plain] at H0
  have Wp := wrap_width width v w h.1 h0 h1
  have eq : v % 2 ^ (8 * width.toNat) = v := Classical.byContradiction fun ne => hv ((fit_iff width v h.1 h0 h1).2 ne)
  rw [eq] at Wp
  have WP := Lib.hid Wp
  have b0 : 1 ≤ width ∧ width ≤ 8 := by have := h.1; omega
  obtain ⟨b1, b2⟩ := b0
  obtain ⟨n, en⟩ : ∃ n, width.toNat = n := ⟨_, rfl⟩
  obtain ⟨O, eO⟩ : ∃ O, o + at_.toNat = O := ⟨_, rfl⟩
  have hfit : O + n ≤ cs.length := by have := h.2; omega
  have hn : n ≤ 8 := by omega
  rw [en, eO] at H0
  rw [en, eO]
  have H := Lib.hid H0
  have HB := Lib.hid hB
  have E := Lib.hid en
  have hl := Lib.hid (leb_length n v)
  clear h hv Wp eq H0 eO en hB hf
  go_enter Try.func95, Try.ntmps95
  go_wp2_with (first | (go_at_call 112; refine H.out.mono ?_; rintro e w' ⟨rfl, rfl⟩) | (go_at_call 113; refine WP.out.mono ?_; rintro e w' ⟨rfl, rfl⟩))
  go_loopw [35] (fun i wr => ∃ k : Nat, k ≤ n ∧ i = .int .i64 k ∧ Hid (wr = w.setRow B (splice cs O (nums .u8 ((leb v n).take k))).toArray)) (fun i _ => n - (intOf i).toNat)
  case atStart => exact ⟨0, Nat.zero_le _, rfl, by
    show w = _
    rw [List.take_zero]
    show w = w.setRow B (splice cs O []).toArray
    rw [splice_none, setRow_same HB.out]⟩
  case round =>
    obtain ⟨k, hk, rfl, R⟩ := hrel
    have hb : wr.heap[B]? = some (.cells (splice cs O (nums .u8 ((leb v n).take k))).toArray T (0, 0)) := by rw [R.out]; exact setRow_heap w B _ _ T (0, 0) HB.out
    by_cases hlt : k < n
    · have hsz : (splice cs O (nums .u8 ((leb v n).take k))).length = cs.length := length_splice _ _ _ (by rw [nums_length, List.length_take]; omega)
      have hc1 : ∃ u, wr.cell? ⟨B, O + k, none⟩ = some u := ⟨_, by rw [blk_cell hb, List.getElem?_toArray, List.getElem?_eq_getElem (by omega)]⟩
      obtain ⟨u, hc1⟩ := hc1
      have hf1 : wr.frozen? ⟨B, O + k, none⟩ = false := blk_frozen hb _
      have HB2 := Lib.hid hb
      clear hb hsz
      go_wp2
      go_roundw
      case rel => exact ⟨k + 1, hlt, by go_num, by
        show _ = _
        rw [setCell_row HB2.out, R.out, setRow_twice]
        congr 1
        rw [List.setIfInBounds_toArray, ← leb_get n v k hlt, splice_step .u8 cs O k (leb v n) (by have := hl.out; omega) (by have := hl.out; omega)]⟩
      case measure => simp [intOf]; omega
    · obtain rfl : k = n := by omega
      have T2 : Hid ((leb v k).take k = leb v k) := List.take_of_length_le (by have := hl.out; omega)
      have R2 : Hid (wr = w.setRow B (splice cs O (nums .u8 (leb v k))).toArray) := by have := R.out; rw [T2.out] at this; exact this
      clear hb
      go_wp2
      go_ret
      exact ⟨rfl, R2.out⟩

end Go.Proofs.Ytolpjgpimholcaa.Codec
