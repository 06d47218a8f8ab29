/- The walks of codec.GetPlace and PutPlace; Put and PutPlace as functions on bytes. -/
import Derived.Test.YtolpjgpimholcaaCodec
namespace Go.Proofs.Ytolpjgpimholcaa.Codec
open Go.RowKit Go.Proofs.Ytolpjgpimholcaa.Mem Go.Proofs.Ytolpjgpimholcaa.CodecPure
set_option linter.unusedVariables false
set_option maxRecDepth 100000

/-- what Put writes into a row known whole -/
def putRow (cs : List Value) (o : Nat) (l : List Int) (at_ width v : Int) : List Value :=
  if (putC l at_ width v).2 = 0 then splice cs (o + at_.toNat) (nums .u8 (leb v width.toNat)) else cs
theorem putRow_length (cs : List Value) (o : Nat) (l : List Int) (at_ width v : Int) (hf : o + l.length ≤ cs.length) : (putRow cs o l at_ width v).length = cs.length := by
  unfold putRow
  split
  · rename_i h
    unfold putC at h
    by_cases ht : there l.length at_ width
    · rw [length_splice]
      rw [nums_length, leb_length]
      have := ht.2
      have := ht.1
      omega
    · rw [if_neg ht] at h; simp at h
  · rfl
theorem putC_length (l : List Int) (at_ width v : Int) : (putC l at_ width v).1.length = l.length := by
  unfold putC
  by_cases ht : there l.length at_ width
  · rw [if_pos ht]
    split
    · rfl
    · rw [length_splice]
      rw [leb_length]
      have := ht.2
      have := ht.1
      omega
  · rw [if_neg ht]
theorem putRow_cells (cs : List Value) (o : Nat) (l : List Int) (at_ width v : Int) (hf : o + l.length ≤ cs.length) (hc : ∀ j, j < l.length → cs[o + j]? = some (.int .u8 (l.getD j 0))) :
    ∀ j, j < l.length → (putRow cs o l at_ width v)[o + j]? = some (.int .u8 ((putC l at_ width v).1.getD j 0)) := by
  unfold putRow putC
  by_cases ht : there l.length at_ width
  · rw [if_pos ht]
    by_cases hx : width < 8 ∧ v / 2 ^ (8 * width.toNat) ≠ 0
    · rw [if_pos hx, if_neg (by simp)]; exact hc
    · rw [if_neg hx, if_pos rfl]
      exact splice_cells .u8 cs o at_.toNat l _ hf (by rw [leb_length]; have := ht.2; have := ht.1; omega) hc
  · rw [if_neg ht, if_neg (by simp)]; exact hc
/-- the program's Put, of bytes that lie in a row known whole -/
theorem put_calls (B o cap : Nat) (T : TypeId) (cs : List Value) (l : List Int) (at_ width v : Int) (w : World) (hB : w.heap[B]? = some (.cells cs.toArray T (0, 0))) (hf : o + l.length ≤ cs.length) (hc : l.length ≤ cap) (hm : cap ≤ 9223372036854775807)
    (hx : -9223372036854775808 ≤ at_ ∧ at_ ≤ 9223372036854775807) (h0 : 0 ≤ v) (h1 : v < 18446744073709551616) :
    Calls Try.prog 95 #[.slice (some ⟨B, o, none⟩) l.length cap, .int .i64 at_, .int .i64 width, .int .u64 v] w fun e w' => e = .returned (.int .i64 (putC l at_ width v).2) ∧ w' = w.setRow B (putRow cs o l at_ width v).toArray := by
  unfold putRow putC
  by_cases ht : there l.length at_ width
  · rw [if_pos ht]
    by_cases hv : width < 8 ∧ v / 2 ^ (8 * width.toNat) ≠ 0
    · rw [if_pos hv, if_neg (by simp), setRow_same hB]
      exact (put_field ⟨B, o, none⟩ l.length cap at_ width v w hc hm ht h0 h1 hv).mono fun e w' ⟨he, hw⟩ => ⟨he, hw.symm⟩
    · rw [if_neg hv, if_pos rfl]
      exact put_ok B o l.length cap T cs at_ width v w hB hf hc hm ht h0 h1 hv
  · rw [if_neg ht, if_neg (by simp), setRow_same hB]
    exact (put_no (some ⟨B, o, none⟩) l.length cap at_ width v w (by omega) hx ht).mono fun e w' ⟨he, hw⟩ => ⟨he, hw.symm⟩

theorem le4 (l : List Int) (hb : Bytes l) (at_ : Int) : 0 ≤ le ((l.drop at_.toNat).take 4) ∧ le ((l.drop at_.toNat).take 4) < 4294967296 := by
  have h := le_range ((l.drop at_.toNat).take 4) fun x hx => hb x (List.mem_of_mem_drop (List.mem_of_mem_take hx))
  refine ⟨h.1, Int.lt_of_lt_of_le h.2 ?_⟩
  have key : ∀ m : Fin 5, (2 : Int) ^ (8 * m.val) ≤ 4294967296 := by decide +kernel
  exact key ⟨_, by rw [List.length_take]; omega⟩
/-- the program's GetPlace -/
theorem getplace_calls (A : Option Addr) (l : List Int) (cap : Nat) (at_ : Int) (w : World) (hs : Sl w .u8 A l) (hb : Bytes l) (hc : l.length ≤ cap) (hm : cap ≤ 9223372036854775807) (hx : -9223372036854775808 ≤ at_ ∧ at_ ≤ 9223372036854775807) :
    Calls Try.prog 98 #[.slice A l.length cap, .int .i64 at_] w fun e w' => e = .returned (.tuple #[.int .i64 (getPlaceC l at_).1, .int .i64 (getPlaceC l at_).2]) ∧ w = w' := by
  have G := get_calls A l cap at_ 4 w hs hb hc hm hx
  unfold getPlaceC
  unfold getC at G
  by_cases h : there l.length at_ 4
  · rw [if_pos h] at G
    rw [if_pos h]
    obtain ⟨r0, r1⟩ := le4 l hb at_
    have e4 : (4 : Int).toNat = 4 := rfl
    rw [e4] at G
    obtain ⟨x, ex⟩ : ∃ x, le ((l.drop at_.toNat).take 4) = x := ⟨_, rfl⟩
    rw [ex] at G r0 r1
    rw [ex]
    have H := Lib.hid G
    clear G h ex hs hb hx hc hm
    by_cases h1 : x = 4294967295
    · subst h1
      have f1 : wrap32 4294967295 = -1 := by decide +kernel
      rw [if_pos rfl]
      go_enter Try.func98, Try.ntmps98
      go_wp2_with (go_at_call 97; refine H.out.mono ?_; rintro e w' ⟨rfl, rfl⟩)
      go_ret2
      exact ⟨rfl, rfl⟩
    · rw [if_neg h1]
      by_cases h2 : x ≥ 2147483648
      · rw [if_pos h2]
        obtain ⟨y, ey⟩ : ∃ y, wrap32 x = y := ⟨_, rfl⟩
        have hy : y < -1 := by unfold wrap32 at ey; omega
        have hy2 : -2147483648 ≤ y := by unfold wrap32 at ey; omega
        go_enter Try.func98, Try.ntmps98
        go_wp2_with (go_at_call 97; refine H.out.mono ?_; rintro e w' ⟨rfl, rfl⟩)
        go_ret2
        exact ⟨rfl, rfl⟩
      · rw [if_neg h2]
        have hx2 : x < 2147483648 := by omega
        go_enter Try.func98, Try.ntmps98
        go_wp2_with (go_at_call 97; refine H.out.mono ?_; rintro e w' ⟨rfl, rfl⟩)
        go_ret2
        exact ⟨rfl, rfl⟩
  · rw [if_neg h] at G
    rw [if_neg h]
    have H := Lib.hid G
    clear G h hs hb hx hc hm
    go_enter Try.func98, Try.ntmps98
    go_wp2_with (go_at_call 97; refine H.out.mono ?_; rintro e w' ⟨rfl, rfl⟩)
    go_ret2
    exact ⟨rfl, rfl⟩

/-- what PutPlace writes into a row known whole -/
def putPlaceRow (cs : List Value) (o : Nat) (l : List Int) (at_ place : Int) : List Value :=
  if (putPlaceC l at_ place).2 = 0 then splice cs (o + at_.toNat) (nums .u8 (leb (place % 4294967296) 4)) else cs
theorem putPlaceC_of (l : List Int) (at_ place : Int) (h : ¬ (place < -1 ∨ place > 2147483647)) : putPlaceC l at_ place = putC l at_ 4 (place % 4294967296) := by
  unfold putPlaceC putC
  have e4 : (4 : Int).toNat = 4 := rfl
  have hf : ¬ ((4 : Int) < 8 ∧ place % 4294967296 / 2 ^ (8 * (4 : Int).toNat) ≠ 0) := by
    show ¬ ((4 : Int) < 8 ∧ place % 4294967296 / 4294967296 ≠ 0)
    omega
  by_cases ht : there l.length at_ 4
  · rw [if_pos ht, if_pos ht, if_neg h, if_neg hf]; rfl
  · rw [if_neg ht, if_neg ht]
/-- the program's PutPlace, of bytes that lie in a row known whole -/
theorem putplace_calls (B o cap : Nat) (T : TypeId) (cs : List Value) (l : List Int) (at_ place : Int) (w : World) (hB : w.heap[B]? = some (.cells cs.toArray T (0, 0))) (hf : o + l.length ≤ cs.length) (hc : l.length ≤ cap) (hm : cap ≤ 9223372036854775807)
    (hx : -9223372036854775808 ≤ at_ ∧ at_ ≤ 9223372036854775807) (hp : -9223372036854775808 ≤ place ∧ place ≤ 9223372036854775807) :
    Calls Try.prog 96 #[.slice (some ⟨B, o, none⟩) l.length cap, .int .i64 at_, .int .i64 place] w fun e w' => e = .returned (.int .i64 (putPlaceC l at_ place).2) ∧ w' = w.setRow B (putPlaceRow cs o l at_ place).toArray := by
  obtain ⟨p0, p1⟩ := hp
  by_cases ht : there l.length at_ 4
  · have H := Lib.hid (part_ok ⟨B, o, none⟩ l.length cap at_ 4 w hc hm ht.1 ht.2.1 ht.2.2)
    by_cases h : place < -1 ∨ place > 2147483647
    · have e : putPlaceC l at_ place = (l, 6) := by unfold putPlaceC; rw [if_pos ht, if_pos h]
      have er : putPlaceRow cs o l at_ place = cs := by unfold putPlaceRow; rw [e, if_neg (by simp)]
      rw [e, er, setRow_same hB]
      clear e er hB hf hc hm hx ht
      rcases h with h | h
      · go_enter Try.func96, Try.ntmps96
        go_wp2_with (go_at_call 112; refine H.out.mono ?_; rintro e w' ⟨rfl, rfl⟩)
        go_ret
        exact ⟨rfl, rfl⟩
      · have h' : ¬ place < -1 := by omega
        go_enter Try.func96, Try.ntmps96
        go_wp2_with (go_at_call 112; refine H.out.mono ?_; rintro e w' ⟨rfl, rfl⟩)
        go_ret
        exact ⟨rfl, rfl⟩
    · have e := putPlaceC_of l at_ place h
      have P := put_calls B o cap T cs l at_ 4 (place % 4294967296) w hB hf hc hm hx (by omega) (by omega)
      have er : putPlaceRow cs o l at_ place = putRow cs o l at_ 4 (place % 4294967296) := by unfold putPlaceRow putRow; rw [e]; rfl
      rw [e, er]
      have PP := Lib.hid P
      have q0 : -1 ≤ place := by omega
      have q1 : place ≤ 2147483647 := by omega
      clear P e er hB hf hc hm hx ht h p0 p1
      go_enter Try.func96, Try.ntmps96
      go_wp2_with (first | (go_at_call 112; refine H.out.mono ?_; rintro e w' ⟨rfl, rfl⟩) | (go_at_call 95; refine PP.out.mono ?_; rintro e w' ⟨rfl, rfl⟩))
      go_ret
      exact ⟨rfl, rfl⟩
  · have H := Lib.hid (part_no (some ⟨B, o, none⟩) l.length cap at_ 4 w (by omega) hx ht)
    have e : putPlaceC l at_ place = (l, 1) := by unfold putPlaceC; rw [if_neg ht]
    have er : putPlaceRow cs o l at_ place = cs := by unfold putPlaceRow; rw [e, if_neg (by simp)]
    rw [e, er, setRow_same hB]
    clear e er hB hf hc hm hx ht
    go_enter Try.func96, Try.ntmps96
    go_wp2_with (go_at_call 112; refine H.out.mono ?_; rintro e w' ⟨rfl, rfl⟩)
    go_ret
    exact ⟨rfl, rfl⟩

end Go.Proofs.Ytolpjgpimholcaa.Codec
