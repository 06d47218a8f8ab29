/- The program's arena in memory, and what its functions do: find, part, Owner, Pages. -/
import Derived.Test.YtolpjgpimholcaaArenaPure
import Derived.Test.YtolpjgpimholcaaApp2
namespace Go.Proofs.Ytolpjgpimholcaa.Arena
open Go Go.RowKit Go.Proofs.Ytolpjgpimholcaa.Mem Go.Proofs.Ytolpjgpimholcaa.CodecPure Go.Proofs.Ytolpjgpimholcaa.ArenaPure
set_option linter.unusedVariables false
set_option maxRecDepth 100000

def pageCells (c : Int) (l : List Int) : List Value := Value.int .i64 c :: nums .u8 l
theorem pageCells_length (c : Int) (l : List Int) : (pageCells c l).length = l.length + 1 := by simp [pageCells, nums_length]
/-- an arena: its header g, the row ps of its pages, the pages' blocks pb -/
structure Ar where
  g : Nat
  ps : Nat
  cap : Nat
  pb : List Nat
structure Lies (w : World) (a : Ar) (s : St) : Prop where
  ok : Ok s
  head : w.heap[a.g]? = some (.cells #[.slice (some ⟨a.ps, 0, none⟩) s.own.length a.cap] 149 (0, 0))
  room : s.own.length ≤ a.cap ∧ a.cap ≤ maxLen
  np : a.pb.length = s.own.length
  row : ∀ i, i < s.own.length → w.cell? ⟨a.ps, i, none⟩ = some (.pointer (some ⟨a.pb.getD i 0, 0, none⟩))
  page : ∀ i, i < s.own.length → w.heap[a.pb.getD i 0]? = some (.cells (pageCells (s.own.getD i 0) (pg s.B i)).toArray 153 (0, 0))
  inj : ∀ i j, i < s.own.length → j < s.own.length → a.pb.getD i 0 = a.pb.getD j 0 → i = j
  far : ∀ i, i < s.own.length → a.pb.getD i 0 ≠ a.g ∧ a.pb.getD i 0 ≠ a.ps
  two : a.g ≠ a.ps
variable {w w' : World} {a : Ar} {s : St}
theorem Lies.hd (h : Lies w a s) : w.cell? ⟨a.g, 0, none⟩ = some (.slice (some ⟨a.ps, 0, none⟩) s.own.length a.cap) := by rw [blk_cell h.head]; rfl
theorem Lies.cls (h : Lies w a s) (i : Nat) (hi : i < s.own.length) : w.cell? ⟨a.pb.getD i 0, 0, none⟩ = some (.int .i64 (s.own.getD i 0)) := by rw [blk_cell (h.page i hi)]; rfl
theorem Lies.chg {S : Nat → Prop} (h : Lies w a s) (hc : Chg S w w') (hg : ¬ S a.g) (hp : ¬ S a.ps) (hb : ∀ b ∈ a.pb, ¬ S b) : Lies w' a s where
  ok := h.ok
  head := hc.keep h.head hg
  room := h.room
  np := h.np
  row i hi := hc.cell (h.row i hi) hp
  page i hi := hc.keep (h.page i hi) (hb _ (by
    have := h.np
    rw [List.getD_eq_getElem?_getD, List.getElem?_eq_getElem (by omega)]
    exact List.getElem_mem _))
  inj := h.inj
  far := h.far
  two := h.two
theorem Lies.drew (h : Lies w a s) (n : Nat) : Lies (w.drewN n) a s := h.chg (Chg.drewN (fun _ => False) w n) id id fun _ _ => id

/-! ### find, Pages, Owner -/
theorem find_no (hl : Lies w a s) (n : Int) (hn : n < 0 ∨ (s.own.length : Int) ≤ n) :
    Calls Try.prog 110 #[.pointer (some ⟨a.g, 0, none⟩), .int .i64 n] w fun e w' => e = .returned (.pointer none) ∧ w = w' := by
  have k1 := hl.hd
  have r := hl.ok.high
  generalize s.own.length = N at hn k1 r
  clear hl
  rcases hn with h | h
  · go_enter Try.func110, Try.ntmps110
    go_wp2
    go_ret
    exact ⟨rfl, rfl⟩
  · have h0 : ¬ n < 0 := by omega
    go_enter Try.func110, Try.ntmps110
    go_wp2
    go_ret
    exact ⟨rfl, rfl⟩
theorem find_ok (hl : Lies w a s) (i : Nat) (hi : i < s.own.length) :
    Calls Try.prog 110 #[.pointer (some ⟨a.g, 0, none⟩), .int .i64 i] w fun e w' => e = .returned (.pointer (some ⟨a.pb.getD i 0, 0, none⟩)) ∧ w = w' := by
  have k1 := hl.hd
  have k2 := hl.row i hi
  have r := hl.ok.high
  generalize s.own.length = N at hi k1 r
  generalize a.pb.getD i 0 = b at k2
  clear hl
  go_enter Try.func110, Try.ntmps110
  go_wp2
  go_ret
  exact ⟨rfl, rfl⟩
theorem pages_calls (hl : Lies w a s) :
    Calls Try.prog 70 #[.pointer (some ⟨a.g, 0, none⟩)] w fun e w' => e = .returned (.int .i64 s.own.length) ∧ w = w' := by
  have k1 := hl.hd
  generalize s.own.length = N at k1
  clear hl
  go_enter Try.func70, Try.ntmps70
  go_wp2
  go_ret
  exact ⟨rfl, rfl⟩
theorem owner_calls (hl : Lies w a s) (n : Int) :
    Calls Try.prog 89 #[.pointer (some ⟨a.g, 0, none⟩), .int .i64 n] w fun e w' => e = .returned (.tuple #[.int .i64 (owner s n).1, .int .i64 (owner s n).2]) ∧ w = w' := by
  unfold owner
  by_cases h : n < 0 ∨ (s.own.length : Int) ≤ n
  · rw [if_pos h]
    have F := Lib.hid (find_no hl n h)
    clear h hl
    go_enter Try.func89, Try.ntmps89
    go_wp2_with (go_at_call 110; refine F.out.mono ?_; rintro e w' ⟨rfl, rfl⟩)
    go_ret2
    exact ⟨rfl, rfl⟩
  · rw [if_neg h]
    obtain ⟨i, rfl⟩ := Int.eq_ofNat_of_zero_le (show 0 ≤ n by omega)
    have hi : i < s.own.length := by omega
    have F := Lib.hid (find_ok hl i hi)
    have k := hl.cls i hi
    have e : ((i : Int)).toNat = i := by omega
    rw [e]
    generalize s.own.getD i 0 = c at k
    generalize a.pb.getD i 0 = b at k F
    clear h hl hi e
    go_enter Try.func89, Try.ntmps89
    go_wp2_with (go_at_call 110; refine F.out.mono ?_; rintro e w' ⟨rfl, rfl⟩)
    go_ret2
    exact ⟨rfl, rfl⟩

/-! ### part -/
/-- the slice that part hands out -/
def cut (a : Ar) (at_ n : Int) : Value := .slice (some ⟨a.pb.getD (at_ / 1024).toNat 0, 1 + (at_ % 1024).toNat, none⟩) n.toNat (1024 - (at_ % 1024).toNat)
theorem part_ok (hl : Lies w a s) (at_ n : Int) (h : within s at_ n) :
    Calls Try.prog 93 #[.pointer (some ⟨a.g, 0, none⟩), .int .i64 at_, .int .i64 n] w fun e w' => e = .returned (.tuple #[cut a at_ n, .bool true]) ∧ w = w' := by
  have hp := page_of h
  obtain ⟨h1, h2, h3, h4, h5⟩ := h
  have F := Lib.hid (find_ok hl (at_ / 1024).toNat hp)
  have k := hl.cls _ hp
  have r := hl.ok.high
  unfold cut
  obtain ⟨A, rfl⟩ := Int.eq_ofNat_of_zero_le h2
  obtain ⟨m, rfl⟩ := Int.eq_ofNat_of_zero_le h1
  have e1 : ((A : Int) / 1024).toNat = A / 1024 := by omega
  have e2 : ((A : Int) % 1024).toNat = A % 1024 := by omega
  have e3 : ((m : Int)).toNat = m := by omega
  rw [e1] at F k h4 ⊢
  rw [e2, e3]
  have q1 : (A : Int) / 1024 = ((A / 1024 : Nat) : Int) := by omega
  have q2 : (A : Int) % 1024 = ((A % 1024 : Nat) : Int) := by omega
  rw [q2] at h5
  have q3 : A % 1024 < 1024 := by omega
  obtain ⟨o, eo⟩ : ∃ o, A % 1024 = o := ⟨_, rfl⟩
  obtain ⟨p, ep⟩ : ∃ p, A / 1024 = p := ⟨_, rfl⟩
  have z1 : (A : Int).tdiv 1024 = p := by rw [Int.tdiv_eq_ediv_of_nonneg (by omega)]; omega
  have z2 : (A : Int).tmod 1024 = o := by rw [Int.tmod_eq_emod_of_nonneg (by omega)]; omega
  have y1 : (A : Int) / 1024 = p := by omega
  have y2 : (A : Int) % 1024 = o := by omega
  rw [eo] at h5 q3 ⊢
  rw [ep] at F k h4 ⊢
  obtain ⟨c, ec⟩ : ∃ c, s.own.getD p 0 = c := ⟨_, rfl⟩
  rw [ec] at k h4
  generalize a.pb.getD p 0 = b at k F
  have a0 : ((A : Int)) ≤ 32768 := by omega
  have w1 : (c == -1) = false := by rw [beq_eq_false_iff_ne]; omega
  have w2 : ¬ (1024 : Int) - o < m := by omega
  have w3 : (o : Int) + m ≤ 1024 := by omega
  have sl : (Instr.sliceAt 151 (.pointer (some ⟨b, 1, none⟩)) (some (.int .i64 o)) (some (.int .i64 (o + m))) none).run Try.prog w = .ok (.slice (some ⟨b, 1 + o, none⟩) m (1024 - o)) w := by
    have al : Try.prog.arrayLen 151 = 1024 := by kernel_rfl
    have el : ∀ W, (Go.sizeOf (Try.prog.elem 151)).run Try.prog W = .ok 1 W := fun W => by kernel_rfl
    rw [run_sliceAt_array_lh w 151 ⟨b, 1, none⟩ (by kernel_rfl) .i64 .i64 o (o + m) (by omega) (by omega) (by rw [al]; omega), el, al]
    have x1 : ((o : Int)).toNat = o := by omega
    have x2 : ((o : Int) + m).toNat = o + m := by omega
    rw [x1, x2]
    show Result.ok (slicedAt _ _ _ _ 1) w = _
    unfold slicedAt
    rw [if_neg (by omega), Nat.mul_one, add_plain, Nat.add_sub_cancel_left]
  clear hl h1 h2 h3 e1 e2 e3 q1 q2 eo ep ec hp r
  go_enter Try.func93, Try.ntmps93
  go_wp2_with (go_at_call 110; refine F.out.mono ?_; rintro e w' ⟨rfl, rfl⟩)
  go_ret2
  exact ⟨rfl, rfl⟩

theorem part_no (hl : Lies w a s) (at_ n : Int) (hx : -9223372036854775808 ≤ at_ ∧ at_ ≤ 9223372036854775807) (h : ¬ within s at_ n) :
    Calls Try.prog 93 #[.pointer (some ⟨a.g, 0, none⟩), .int .i64 at_, .int .i64 n] w fun e w' => e = .returned (.tuple #[.slice none 0 0, .bool false]) ∧ w = w' := by
  by_cases h2 : at_ < 0
  · clear hl h
    go_enter Try.func93, Try.ntmps93
    go_wp2
    go_ret2
    exact ⟨rfl, rfl⟩
  by_cases h1 : n < 0
  · clear hl h
    go_enter Try.func93, Try.ntmps93
    go_wp2
    go_ret2
    exact ⟨rfl, rfl⟩
  obtain ⟨A, rfl⟩ := Int.eq_ofNat_of_zero_le (show 0 ≤ at_ by omega)
  obtain ⟨m, rfl⟩ := Int.eq_ofNat_of_zero_le (show 0 ≤ n by omega)
  obtain ⟨o, eo⟩ : ∃ o, A % 1024 = o := ⟨_, rfl⟩
  obtain ⟨p, ep⟩ : ∃ p, A / 1024 = p := ⟨_, rfl⟩
  have z1 : (A : Int).tdiv 1024 = p := by rw [Int.tdiv_eq_ediv_of_nonneg (by omega)]; omega
  have z2 : (A : Int).tmod 1024 = o := by rw [Int.tmod_eq_emod_of_nonneg (by omega)]; omega
  have y1 : (A : Int) / 1024 = p := by omega
  have y2 : (A : Int) % 1024 = o := by omega
  have q3 : o < 1024 := by omega
  have a0 := hx.2
  by_cases h3 : s.own.length ≤ p
  · have F := Lib.hid (find_no hl p (Or.inr (by omega)))
    clear hl h h1 h2 hx eo ep h3
    go_enter Try.func93, Try.ntmps93
    go_wp2_with (go_at_call 110; refine F.out.mono ?_; rintro e w' ⟨rfl, rfl⟩)
    go_ret2
    exact ⟨rfl, rfl⟩
  have hp : p < s.own.length := by omega
  have F := Lib.hid (find_ok hl p hp)
  have k := hl.cls p hp
  have kc := (hl.ok.cls p hp).1
  by_cases h4 : s.own.getD p 0 < 0
  · have e1 : s.own.getD p 0 = -1 := by omega
    rw [e1] at k
    generalize a.pb.getD p 0 = b at k F
    clear hl h h1 h2 hx eo ep h3 h4 e1 kc hp
    go_enter Try.func93, Try.ntmps93
    go_wp2_with (go_at_call 110; refine F.out.mono ?_; rintro e w' ⟨rfl, rfl⟩)
    go_ret2
    exact ⟨rfl, rfl⟩
  · have h5 : (1024 : Int) - o < m := by
      by_cases h6 : (1024 : Int) - o < m
      · exact h6
      · refine absurd ⟨by omega, by omega, by omega, ?_, by omega⟩ h
        have e1 : ((A : Int) / 1024).toNat = p := by omega
        rw [e1]; omega
    obtain ⟨c, ec⟩ : ∃ c, s.own.getD p 0 = c := ⟨_, rfl⟩
    rw [ec] at k h4
    generalize a.pb.getD p 0 = b at k F
    have w1 : (c == -1) = false := by rw [beq_eq_false_iff_ne]; omega
    clear hl h h1 h2 hx eo ep h3 h4 kc hp ec
    go_enter Try.func93, Try.ntmps93
    go_wp2_with (go_at_call 110; refine F.out.mono ?_; rintro e w' ⟨rfl, rfl⟩)
    go_ret2
    exact ⟨rfl, rfl⟩

end Go.Proofs.Ytolpjgpimholcaa.Arena
