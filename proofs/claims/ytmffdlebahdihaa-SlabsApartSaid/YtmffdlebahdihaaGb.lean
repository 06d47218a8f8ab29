import Derived.Test.YtmffdlebahdihaaGa
import Derived.StillTailTactics
import Derived.IntWalk
import Derived.Laws.MakeOwn
/- Chapter 05 in plain words: pages, each with a class or free, and all their bytes in one row. No program in sight. -/
namespace Go.Proofs.Ytmffdlebahdihaa.ArenaPure
open Go Go.RowKit Go.Proofs.Ytmffdlebahdihaa.Mem Go.Proofs.Ytmffdlebahdihaa.CodecPure Go.Proofs.Ytmffdlebahdihaa.Codec
set_option linter.unusedVariables false
set_option maxRecDepth 100000

structure St where
  own : List Int
  B : List Int
def Z1024 : List Int := List.replicate 1024 0
theorem Z1024_length : Z1024.length = 1024 := by rw [Z1024, List.length_replicate]
theorem Z1024_bytes : Bytes Z1024 := fun x hx => by rw [List.eq_of_mem_replicate hx]; decide
/-- the bytes of a page -/
def pg (B : List Int) (i : Nat) : List Int := (B.drop (1024 * i)).take 1024
structure Ok (s : St) : Prop where
  low : 1 ≤ s.own.length
  high : s.own.length ≤ 32
  len : s.B.length = 1024 * s.own.length
  bytes : Bytes s.B
  cls : ∀ i, i < s.own.length → -1 ≤ s.own.getD i 0 ∧ s.own.getD i 0 < 8
def within (s : St) (at_ n : Int) : Prop := 0 ≤ n ∧ 0 ≤ at_ ∧ at_ < 1024 * s.own.length ∧ 0 ≤ s.own.getD (at_ / 1024).toNat 0 ∧ n ≤ 1024 - at_ % 1024
instance (s : St) (at_ n : Int) : Decidable (within s at_ n) := by unfold within; infer_instance
def new (n : Nat) : St := ⟨List.replicate n (-1), List.replicate (1024 * n) 0⟩
def first (own : List Int) : Nat := own.findIdx (fun c => decide (c < 0))
def grant (s : St) (c : Int) : St × Int × Int :=
  if c < 0 ∨ 8 ≤ c then (s, 0, 1)
  else if first s.own < s.own.length then (⟨s.own.set (first s.own) c, splice s.B (1024 * first s.own) Z1024⟩, (first s.own : Int), 0) else (s, 0, 2)
def ret (s : St) (n : Int) : St × Int :=
  if n < 0 ∨ (s.own.length : Int) ≤ n then (s, 1) else if s.own.getD n.toNat 0 < 0 then (s, 5) else (⟨s.own.set n.toNat (-1), s.B⟩, 0)
def owner (s : St) (n : Int) : Int × Int := if n < 0 ∨ (s.own.length : Int) ≤ n then (0, 1) else (s.own.getD n.toNat 0, 0)
def free (s : St) : Nat := s.own.countP (fun c => decide (c < 0))
def got (s : St) (at_ n : Int) : List Int := (s.B.drop at_.toNat).take n.toNat
def lay (s : St) (at_ : Int) (l : List Int) : St := ⟨s.own, splice s.B at_.toNat l⟩
def readA (s : St) (at_ n : Int) : List Int × Int := if within s at_ n then (got s at_ n, 0) else ([], 1)
def write (s : St) (at_ : Int) (l : List Int) : St × Int := if within s at_ l.length then (lay s at_ l, 0) else (s, 1)
def number (s : St) (at_ w : Int) : Int × Int := if within s at_ w then getC (got s at_ w) 0 w else (0, 1)
def setNumber (s : St) (at_ w v : Int) : St × Int := if within s at_ w then (lay s at_ (putC (got s at_ w) 0 w v).1, (putC (got s at_ w) 0 w v).2) else (s, 1)
def place (s : St) (at_ : Int) : Int × Int := if within s at_ 4 then getPlaceC (got s at_ 4) 0 else (0, 1)
def setPlace (s : St) (at_ p : Int) : St × Int := if within s at_ 4 then (lay s at_ (putPlaceC (got s at_ 4) 0 p).1, (putPlaceC (got s at_ 4) 0 p).2) else (s, 1)

/-! ### What stays in order -/
theorem pg_length {s : St} (h : Ok s) (i : Nat) (hi : i < s.own.length) : (pg s.B i).length = 1024 := by
  have := h.len
  unfold pg
  rw [List.length_take, List.length_drop]
  omega
theorem pg_bytes {s : St} (h : Ok s) (i : Nat) : Bytes (pg s.B i) := fun x hx => h.bytes x (List.mem_of_mem_drop (List.mem_of_mem_take hx))
theorem page_of {s : St} {at_ n : Int} (h : within s at_ n) : (at_ / 1024).toNat < s.own.length := by
  obtain ⟨h1, h2, h3, h4, h5⟩ := h
  omega
theorem in_row {s : St} (hs : Ok s) {at_ n : Int} (h : within s at_ n) : at_.toNat + n.toNat ≤ s.B.length := by
  obtain ⟨h1, h2, h3, h4, h5⟩ := h
  have := hs.len
  omega
theorem got_length {s : St} (hs : Ok s) {at_ n : Int} (h : within s at_ n) : (got s at_ n).length = n.toNat := by
  have := in_row hs h
  unfold got
  rw [List.length_take, List.length_drop]
  omega
theorem got_bytes {s : St} (hs : Ok s) (at_ n : Int) : Bytes (got s at_ n) := fun x hx => hs.bytes x (List.mem_of_mem_drop (List.mem_of_mem_take hx))
theorem lay_ok {s : St} (hs : Ok s) {at_ : Int} {l : List Int} (hl : at_.toNat + l.length ≤ s.B.length) (hb : Bytes l) : Ok (lay s at_ l) :=
  ⟨hs.low, hs.high, by show (splice s.B at_.toNat l).length = _; rw [length_splice _ _ _ hl]; exact hs.len, bytes_splice _ _ _ hs.bytes hb, hs.cls⟩
/-- what is read lies in its page -/
theorem got_page {s : St} (hs : Ok s) {at_ n : Int} (h : within s at_ n) : got s at_ n = ((pg s.B (at_ / 1024).toNat).drop (at_ % 1024).toNat).take n.toNat := by
  obtain ⟨h1, h2, h3, h4, h5⟩ := h
  unfold got pg
  apply List.ext_getElem?
  intro i
  rw [List.getElem?_take, List.getElem?_take]
  by_cases hi : i < n.toNat
  · rw [if_pos hi, if_pos hi, List.getElem?_drop, List.getElem?_drop, List.getElem?_take, if_pos (by omega), List.getElem?_drop]
    congr 1; omega
  · rw [if_neg hi, if_neg hi]
/-- what is laid is laid into its page, and other pages stay -/
theorem lay_page {s : St} (hs : Ok s) {at_ : Int} {l : List Int} (h : within s at_ l.length) (i : Nat) (hi : i < s.own.length) :
    pg (lay s at_ l).B i = if i = (at_ / 1024).toNat then splice (pg s.B i) (at_ % 1024).toNat l else pg s.B i := by
  have hr := in_row hs h
  obtain ⟨h1, h2, h3, h4, h5⟩ := h
  have hlen := hs.len
  have hr' : at_.toNat + l.length ≤ s.B.length := by omega
  show ((splice s.B at_.toNat l).drop (1024 * i)).take 1024 = _
  apply List.ext_getElem?
  intro j
  rw [List.getElem?_take]
  by_cases hj : j < 1024
  · rw [if_pos hj, List.getElem?_drop, splice_get _ _ _ hr']
    by_cases e : i = (at_ / 1024).toNat
    · rw [if_pos e, splice_get _ _ _ (by rw [pg_length hs i hi]; omega)]
      by_cases hin : (at_ % 1024).toNat ≤ j ∧ j < (at_ % 1024).toNat + l.length
      · rw [if_pos (by omega), if_pos hin]
        congr 1; omega
      · rw [if_neg (by omega), if_neg hin]
        unfold pg
        rw [List.getElem?_take, if_pos hj, List.getElem?_drop]
    · rw [if_neg e, if_neg (by omega)]
      unfold pg
      rw [List.getElem?_take, if_pos hj, List.getElem?_drop]
  · rw [if_neg hj]
    by_cases e : i = (at_ / 1024).toNat
    · rw [if_pos e, List.getElem?_eq_none (by rw [length_splice _ _ _ (by rw [pg_length hs i hi]; omega), pg_length hs i hi]; omega)]
    · rw [if_neg e, List.getElem?_eq_none (by rw [pg_length hs i hi]; omega)]

end Go.Proofs.Ytmffdlebahdihaa.ArenaPure

/- The program's arena in memory, and what its functions do: find, part, Owner, Pages. -/
namespace Go.Proofs.Ytmffdlebahdihaa.Arena
open Go Go.RowKit Go.Proofs.Ytmffdlebahdihaa.Mem Go.Proofs.Ytmffdlebahdihaa.CodecPure Go.Proofs.Ytmffdlebahdihaa.ArenaPure
set_option linter.unusedVariables false
set_option maxRecDepth 100000

def pageCells (c : Int) (l : List Int) : List Value := Value.int .i64 c :: nums .u8 l
theorem pageCells_length (c : Int) (l : List Int) : (pageCells c l).length = l.length + 1 := by simp [pageCells, nums_length]
/-- an arena: its header g, the row ps of its pages, the pages' blocks pb -/
structure Ar where
  g : Nat
  ps : Nat
  cap : Nat
  pb : List Nat
structure Lies (w : World) (a : Ar) (s : St) : Prop where
  ok : Ok s
  head : w.heap[a.g]? = some (.cells #[.slice (some ⟨a.ps, 0, none⟩) s.own.length a.cap] 92 (0, 0))
  room : s.own.length ≤ a.cap ∧ a.cap ≤ maxLen
  np : a.pb.length = s.own.length
  row : ∀ i, i < s.own.length → w.cell? ⟨a.ps, i, none⟩ = some (.pointer (some ⟨a.pb.getD i 0, 0, none⟩))
  page : ∀ i, i < s.own.length → w.heap[a.pb.getD i 0]? = some (.cells (pageCells (s.own.getD i 0) (pg s.B i)).toArray 96 (0, 0))
  inj : ∀ i j, i < s.own.length → j < s.own.length → a.pb.getD i 0 = a.pb.getD j 0 → i = j
  far : ∀ i, i < s.own.length → a.pb.getD i 0 ≠ a.g ∧ a.pb.getD i 0 ≠ a.ps
  two : a.g ≠ a.ps
variable {w w' : World} {a : Ar} {s : St}
theorem Lies.hd (h : Lies w a s) : w.cell? ⟨a.g, 0, none⟩ = some (.slice (some ⟨a.ps, 0, none⟩) s.own.length a.cap) := by rw [blk_cell h.head]; rfl
theorem Lies.cls (h : Lies w a s) (i : Nat) (hi : i < s.own.length) : w.cell? ⟨a.pb.getD i 0, 0, none⟩ = some (.int .i64 (s.own.getD i 0)) := by rw [blk_cell (h.page i hi)]; rfl
theorem Lies.chg {S : Nat → Prop} (h : Lies w a s) (hc : Chg S w w') (hg : ¬ S a.g) (hp : ¬ S a.ps) (hb : ∀ b ∈ a.pb, ¬ S b) : Lies w' a s where
  ok := h.ok
  head := hc.keep h.head hg
  room := h.room
  np := h.np
  row i hi := hc.cell (h.row i hi) hp
  page i hi := hc.keep (h.page i hi) (hb _ (by
    have := h.np
    rw [List.getD_eq_getElem?_getD, List.getElem?_eq_getElem (by omega)]
    exact List.getElem_mem _))
  inj := h.inj
  far := h.far
  two := h.two
theorem Lies.drew (h : Lies w a s) (n : Nat) : Lies (w.drewN n) a s := h.chg (Chg.drewN (fun _ => False) w n) id id fun _ _ => id

/-! ### find, Pages, Owner -/
theorem find_no (hl : Lies w a s) (n : Int) (hn : n < 0 ∨ (s.own.length : Int) ≤ n) :
    Calls Try.prog 83 #[.pointer (some ⟨a.g, 0, none⟩), .int .i64 n] w fun e w' => e = .returned (.pointer none) ∧ w = w' := by
  have k1 := hl.hd
  have r := hl.ok.high
  generalize s.own.length = N at hn k1 r
  clear hl
  rcases hn with h | h
  · go_enter Try.func83, Try.ntmps83
    go_wp2
    go_ret
    exact ⟨rfl, rfl⟩
  · have h0 : ¬ n < 0 := by omega
    go_enter Try.func83, Try.ntmps83
    go_wp2
    go_ret
    exact ⟨rfl, rfl⟩
theorem find_ok (hl : Lies w a s) (i : Nat) (hi : i < s.own.length) :
    Calls Try.prog 83 #[.pointer (some ⟨a.g, 0, none⟩), .int .i64 i] w fun e w' => e = .returned (.pointer (some ⟨a.pb.getD i 0, 0, none⟩)) ∧ w = w' := by
  have k1 := hl.hd
  have k2 := hl.row i hi
  have r := hl.ok.high
  generalize s.own.length = N at hi k1 r
  generalize a.pb.getD i 0 = b at k2
  clear hl
  go_enter Try.func83, Try.ntmps83
  go_wp2
  go_ret
  exact ⟨rfl, rfl⟩
theorem pages_calls (hl : Lies w a s) :
    Calls Try.prog 55 #[.pointer (some ⟨a.g, 0, none⟩)] w fun e w' => e = .returned (.int .i64 s.own.length) ∧ w = w' := by
  have k1 := hl.hd
  generalize s.own.length = N at k1
  clear hl
  go_enter Try.func55, Try.ntmps55
  go_wp2
  go_ret
  exact ⟨rfl, rfl⟩
theorem owner_calls (hl : Lies w a s) (n : Int) :
    Calls Try.prog 47 #[.pointer (some ⟨a.g, 0, none⟩), .int .i64 n] w fun e w' => e = .returned (.tuple #[.int .i64 (owner s n).1, .int .i64 (owner s n).2]) ∧ w = w' := by
  unfold owner
  by_cases h : n < 0 ∨ (s.own.length : Int) ≤ n
  · rw [if_pos h]
    have F := Lib.hid (find_no hl n h)
    clear h hl
    go_enter Try.func47, Try.ntmps47
    go_wp2_with (go_at_call 83; refine F.out.mono ?_; rintro e w' ⟨rfl, rfl⟩)
    go_ret2
    exact ⟨rfl, rfl⟩
  · rw [if_neg h]
    obtain ⟨i, rfl⟩ := Int.eq_ofNat_of_zero_le (show 0 ≤ n by omega)
    have hi : i < s.own.length := by omega
    have F := Lib.hid (find_ok hl i hi)
    have k := hl.cls i hi
    have e : ((i : Int)).toNat = i := by omega
    rw [e]
    generalize s.own.getD i 0 = c at k
    generalize a.pb.getD i 0 = b at k F
    clear h hl hi e
    go_enter Try.func47, Try.ntmps47
    go_wp2_with (go_at_call 83; refine F.out.mono ?_; rintro e w' ⟨rfl, rfl⟩)
    go_ret2
    exact ⟨rfl, rfl⟩

/-! ### part -/
/-- the slice that part hands out -/
def cut (a : Ar) (at_ n : Int) : Value := .slice (some ⟨a.pb.getD (at_ / 1024).toNat 0, 1 + (at_ % 1024).toNat, none⟩) n.toNat (1024 - (at_ % 1024).toNat)
theorem part_ok (hl : Lies w a s) (at_ n : Int) (h : within s at_ n) :
    Calls Try.prog 58 #[.pointer (some ⟨a.g, 0, none⟩), .int .i64 at_, .int .i64 n] w fun e w' => e = .returned (.tuple #[cut a at_ n, .bool true]) ∧ w = w' := by
  have hp := page_of h
  obtain ⟨h1, h2, h3, h4, h5⟩ := h
  have F := Lib.hid (find_ok hl (at_ / 1024).toNat hp)
  have k := hl.cls _ hp
  have r := hl.ok.high
  unfold cut
  obtain ⟨A, rfl⟩ := Int.eq_ofNat_of_zero_le h2
  obtain ⟨m, rfl⟩ := Int.eq_ofNat_of_zero_le h1
  have e1 : ((A : Int) / 1024).toNat = A / 1024 := by omega
  have e2 : ((A : Int) % 1024).toNat = A % 1024 := by omega
  have e3 : ((m : Int)).toNat = m := by omega
  rw [e1] at F k h4 ⊢
  rw [e2, e3]
  have q1 : (A : Int) / 1024 = ((A / 1024 : Nat) : Int) := by omega
  have q2 : (A : Int) % 1024 = ((A % 1024 : Nat) : Int) := by omega
  rw [q2] at h5
  have q3 : A % 1024 < 1024 := by omega
  obtain ⟨o, eo⟩ : ∃ o, A % 1024 = o := ⟨_, rfl⟩
  obtain ⟨p, ep⟩ : ∃ p, A / 1024 = p := ⟨_, rfl⟩
  have z1 : (A : Int).tdiv 1024 = p := by rw [Int.tdiv_eq_ediv_of_nonneg (by omega)]; omega
  have z2 : (A : Int).tmod 1024 = o := by rw [Int.tmod_eq_emod_of_nonneg (by omega)]; omega
  have y1 : (A : Int) / 1024 = p := by omega
  have y2 : (A : Int) % 1024 = o := by omega
  rw [eo] at h5 q3 ⊢
  rw [ep] at F k h4 ⊢
  obtain ⟨c, ec⟩ : ∃ c, s.own.getD p 0 = c := ⟨_, rfl⟩
  rw [ec] at k h4
  generalize a.pb.getD p 0 = b at k F
  have a0 : ((A : Int)) ≤ 32768 := by omega
  have w1 : (c == -1) = false := by rw [beq_eq_false_iff_ne]; omega
  have w2 : ¬ (1024 : Int) - o < m := by omega
  have w3 : (o : Int) + m ≤ 1024 := by omega
  have sl : (Instr.sliceAt 94 (.pointer (some ⟨b, 1, none⟩)) (some (.int .i64 o)) (some (.int .i64 (o + m))) none).run Try.prog w = .ok (.slice (some ⟨b, 1 + o, none⟩) m (1024 - o)) w := by
    have al : Try.prog.arrayLen 94 = 1024 := by kernel_rfl
    have el : ∀ W, (Go.sizeOf (Try.prog.elem 94)).run Try.prog W = .ok 1 W := fun W => by kernel_rfl
    rw [run_sliceAt_array_lh w 94 ⟨b, 1, none⟩ (by kernel_rfl) .i64 .i64 o (o + m) (by omega) (by omega) (by rw [al]; omega), el, al]
    have x1 : ((o : Int)).toNat = o := by omega
    have x2 : ((o : Int) + m).toNat = o + m := by omega
    rw [x1, x2]
    show Result.ok (slicedAt _ _ _ _ 1) w = _
    unfold slicedAt
    rw [if_neg (by omega), Nat.mul_one, add_plain, Nat.add_sub_cancel_left]
  clear hl h1 h2 h3 e1 e2 e3 q1 q2 eo ep ec hp r
  go_enter Try.func58, Try.ntmps58
  go_wp2_with (go_at_call 83; refine F.out.mono ?_; rintro e w' ⟨rfl, rfl⟩)
  go_ret2
  exact ⟨rfl, rfl⟩

theorem part_no (hl : Lies w a s) (at_ n : Int) (hx : -9223372036854775808 ≤ at_ ∧ at_ ≤ 9223372036854775807) (h : ¬ within s at_ n) :
    Calls Try.prog 58 #[.pointer (some ⟨a.g, 0, none⟩), .int .i64 at_, .int .i64 n] w fun e w' => e = .returned (.tuple #[.slice none 0 0, .bool false]) ∧ w = w' := by
  by_cases h2 : at_ < 0
  · clear hl h
    go_enter Try.func58, Try.ntmps58
    go_wp2
    go_ret2
    exact ⟨rfl, rfl⟩
  by_cases h1 : n < 0
  · clear hl h
    go_enter Try.func58, Try.ntmps58
    go_wp2
    go_ret2
    exact ⟨rfl, rfl⟩
  obtain ⟨A, rfl⟩ := Int.eq_ofNat_of_zero_le (show 0 ≤ at_ by omega)
  obtain ⟨m, rfl⟩ := Int.eq_ofNat_of_zero_le (show 0 ≤ n by omega)
  obtain ⟨o, eo⟩ : ∃ o, A % 1024 = o := ⟨_, rfl⟩
  obtain ⟨p, ep⟩ : ∃ p, A / 1024 = p := ⟨_, rfl⟩
  have z1 : (A : Int).tdiv 1024 = p := by rw [Int.tdiv_eq_ediv_of_nonneg (by omega)]; omega
  have z2 : (A : Int).tmod 1024 = o := by rw [Int.tmod_eq_emod_of_nonneg (by omega)]; omega
  have y1 : (A : Int) / 1024 = p := by omega
  have y2 : (A : Int) % 1024 = o := by omega
  have q3 : o < 1024 := by omega
  have a0 := hx.2
  by_cases h3 : s.own.length ≤ p
  · have F := Lib.hid (find_no hl p (Or.inr (by omega)))
    clear hl h h1 h2 hx eo ep h3
    go_enter Try.func58, Try.ntmps58
    go_wp2_with (go_at_call 83; refine F.out.mono ?_; rintro e w' ⟨rfl, rfl⟩)
    go_ret2
    exact ⟨rfl, rfl⟩
  have hp : p < s.own.length := by omega
  have F := Lib.hid (find_ok hl p hp)
  have k := hl.cls p hp
  have kc := (hl.ok.cls p hp).1
  by_cases h4 : s.own.getD p 0 < 0
  · have e1 : s.own.getD p 0 = -1 := by omega
    rw [e1] at k
    generalize a.pb.getD p 0 = b at k F
    clear hl h h1 h2 hx eo ep h3 h4 e1 kc hp
    go_enter Try.func58, Try.ntmps58
    go_wp2_with (go_at_call 83; refine F.out.mono ?_; rintro e w' ⟨rfl, rfl⟩)
    go_ret2
    exact ⟨rfl, rfl⟩
  · have h5 : (1024 : Int) - o < m := by
      by_cases h6 : (1024 : Int) - o < m
      · exact h6
      · refine absurd ⟨by omega, by omega, by omega, ?_, by omega⟩ h
        have e1 : ((A : Int) / 1024).toNat = p := by omega
        rw [e1]; omega
    obtain ⟨c, ec⟩ : ∃ c, s.own.getD p 0 = c := ⟨_, rfl⟩
    rw [ec] at k h4
    generalize a.pb.getD p 0 = b at k F
    have w1 : (c == -1) = false := by rw [beq_eq_false_iff_ne]; omega
    clear hl h h1 h2 hx eo ep h3 h4 kc hp ec
    go_enter Try.func58, Try.ntmps58
    go_wp2_with (go_at_call 83; refine F.out.mono ?_; rintro e w' ⟨rfl, rfl⟩)
    go_ret2
    exact ⟨rfl, rfl⟩

end Go.Proofs.Ytmffdlebahdihaa.Arena

/- The program's arena: Read, Write, Number, SetNumber, Place, SetPlace, Return, Free: what each answers, and what it writes. -/
namespace Go.Proofs.Ytmffdlebahdihaa.Arena
open Go Go.RowKit Go.Proofs.Ytmffdlebahdihaa.Mem Go.Proofs.Ytmffdlebahdihaa.CodecPure Go.Proofs.Ytmffdlebahdihaa.ArenaPure Go.Proofs.Ytmffdlebahdihaa.Codec
set_option linter.unusedVariables false
set_option maxRecDepth 100000
variable {w w' : World} {a : Ar} {s : St}

/-! ### plain words -/
theorem splice_self {α : Type} (P : List α) (o n : Nat) (h : o + n ≤ P.length) : splice P o ((P.drop o).take n) = P := by
  have hl : ((P.drop o).take n).length = n := by rw [List.length_take, List.length_drop]; omega
  apply List.ext_getElem?
  intro i
  rw [splice_get _ _ _ (by omega), hl]
  split
  · rw [List.getElem?_take, if_pos (by omega), List.getElem?_drop]; congr 1; omega
  · rfl
theorem splice_whole {α : Type} (L X : List α) (h : X.length = L.length) : splice L 0 X = X := by
  unfold splice
  rw [List.take_zero, List.nil_append, List.drop_of_length_le (by omega), List.append_nil]
theorem splice_cells_of (c : Int) (P X : List Int) (o : Nat) : splice (pageCells c P) (1 + o) (nums .u8 X) = pageCells c (splice P o X) := by
  unfold splice pageCells nums
  rw [Nat.add_comm 1 o, List.take_succ_cons, List.cons_append, Nat.add_right_comm, List.drop_succ_cons, List.length_map, List.map_append, List.map_append, List.map_take, List.map_drop]
theorem putC_pair (L : List Int) (width v : Int) (h : L.length = width.toNat) : (putC L 0 width v).1 = L ∧ (putC L 0 width v).2 ≠ 0 ∨ (putC L 0 width v).1 = leb v width.toNat ∧ (putC L 0 width v).2 = 0 := by
  unfold putC
  by_cases ht : there L.length 0 width
  · rw [if_pos ht]
    by_cases hv : width < 8 ∧ v / 2 ^ (8 * width.toNat) ≠ 0
    · rw [if_pos hv]; exact Or.inl ⟨rfl, by simp⟩
    · rw [if_neg hv]
      refine Or.inr ⟨?_, rfl⟩
      exact splice_whole _ _ (by rw [leb_length]; exact h.symm)
  · rw [if_neg ht]; exact Or.inl ⟨rfl, by simp⟩
theorem putRow_page (c : Int) (P : List Int) (o : Nat) (width v : Int) (h : o + width.toNat ≤ P.length) :
    putRow (pageCells c P) (1 + o) ((P.drop o).take width.toNat) 0 width v = pageCells c (splice P o (putC ((P.drop o).take width.toNat) 0 width v).1) := by
  have hl : ((P.drop o).take width.toNat).length = width.toNat := by rw [List.length_take, List.length_drop]; omega
  unfold putRow
  rcases putC_pair _ width v hl with ⟨e1, e2⟩ | ⟨e1, e2⟩
  · rw [if_neg e2, e1, splice_self P o _ h]
  · rw [if_pos e2, e1]
    exact splice_cells_of c P _ o
theorem putPlaceRow_page (c : Int) (P : List Int) (o : Nat) (p : Int) (h : o + 4 ≤ P.length) :
    putPlaceRow (pageCells c P) (1 + o) ((P.drop o).take 4) 0 p = pageCells c (splice P o (putPlaceC ((P.drop o).take 4) 0 p).1) := by
  by_cases hp : p < -1 ∨ p > 2147483647
  · rw [(putPlaceRow_far _ _ _ _ _ hp).1, (putPlaceRow_far [] 0 _ _ _ hp).2, splice_self P o 4 h]
  · rw [putPlaceRow_of _ _ _ _ _ hp, putPlaceC_of _ _ _ hp]
    exact putRow_page c P o 4 _ h
theorem putC_len (L : List Int) (width v : Int) : (putC L 0 width v).1.length = L.length := putC_length L 0 width v

/-! ### a page that is written -/
theorem Lies.pb_mem (h : Lies w a s) (i : Nat) (hi : i < s.own.length) : a.pb.getD i 0 ∈ a.pb := by
  have := h.np
  rw [List.getD_eq_getElem?_getD, List.getElem?_eq_getElem (by omega)]
  exact List.getElem_mem _
theorem Lies.of_mem (h : Lies w a s) {b : Nat} (hb : b ∈ a.pb) : ∃ i, i < s.own.length ∧ a.pb.getD i 0 = b := by
  obtain ⟨i, hi, e⟩ := List.mem_iff_getElem.1 hb
  refine ⟨i, by have := h.np; omega, ?_⟩
  rw [List.getD_eq_getElem?_getD, List.getElem?_eq_getElem hi]; exact e
theorem Lies.g_out (h : Lies w a s) : a.g ∉ a.pb := fun hb => by
  obtain ⟨i, hi, e⟩ := h.of_mem hb
  exact (h.far i hi).1 e
theorem Lies.ps_out (h : Lies w a s) : a.ps ∉ a.pb := fun hb => by
  obtain ⟨i, hi, e⟩ := h.of_mem hb
  exact (h.far i hi).2 e
theorem Lies.put (h : Lies w a s) (s' : St) (hs : Ok s') (hn : s'.own.length = s.own.length) (i : Nat) (hi : i < s.own.length) (hc : Chg (fun b => b = a.pb.getD i 0) w w')
    (hb : w'.heap[a.pb.getD i 0]? = some (.cells (pageCells (s'.own.getD i 0) (pg s'.B i)).toArray 96 (0, 0)))
    (hr : ∀ j, j < s.own.length → j ≠ i → s'.own.getD j 0 = s.own.getD j 0 ∧ pg s'.B j = pg s.B j) : Lies w' a s' ∧ Chg (· ∈ a.pb) w w' := by
  refine ⟨⟨hs, ?_, by rw [hn]; exact h.room, by rw [hn]; exact h.np, ?_, ?_, by rw [hn]; exact h.inj, by rw [hn]; exact h.far, h.two⟩, hc.mono fun b _ e => e ▸ h.pb_mem i hi⟩
  · rw [hn]; exact hc.keep h.head fun e => (h.far i hi).1 e.symm
  · rw [hn]
    exact fun j hj => hc.cell (h.row j hj) fun e => (h.far i hi).2 e.symm
  · rw [hn]
    intro j hj
    by_cases e : j = i
    · subst e; exact hb
    · rw [(hr j hj e).1, (hr j hj e).2]
      exact hc.keep (h.page j hj) fun e' => e (h.inj j i hj hi e')
/-- what lies where part points -/
theorem Lies.cut_sl (h : Lies w a s) (at_ n : Int) (hi : within s at_ n) : Sl w .u8 (some ⟨a.pb.getD (at_ / 1024).toNat 0, 1 + (at_ % 1024).toNat, none⟩) (got s at_ n) := by
  intro j hj
  refine ⟨_, rfl, ?_⟩
  have hp := page_of hi
  rw [add_plain, blk_cell (h.page _ hp), got_page h.ok hi]
  have hl := got_length h.ok hi
  have h4 := hi.2.2.2.2
  have hP := pg_length h.ok _ hp
  have e1 : 1 + (at_ % 1024).toNat + j = ((at_ % 1024).toNat + j) + 1 := by omega
  rw [e1]
  unfold pageCells
  rw [List.getElem?_toArray, List.getElem?_cons_succ, nums_get _ _ _ (by omega)]
  congr 2
  rw [List.getD_eq_getElem?_getD, List.getD_eq_getElem?_getD, List.getElem?_take, if_pos (by omega), List.getElem?_drop]
/-- bytes that are laid -/
theorem Lies.lay (h : Lies w a s) (at_ : Int) (X : List Int) (hi : within s at_ X.length) (hX : Bytes X) (hc : Chg (fun b => b = a.pb.getD (at_ / 1024).toNat 0) w w')
    (hb : w'.heap[a.pb.getD (at_ / 1024).toNat 0]? = some (.cells (pageCells (s.own.getD (at_ / 1024).toNat 0) (splice (pg s.B (at_ / 1024).toNat) (at_ % 1024).toNat X)).toArray 96 (0, 0))) :
    Lies w' a (lay s at_ X) ∧ Chg (· ∈ a.pb) w w' := by
  have hp := page_of hi
  have hr := in_row h.ok hi
  refine h.put _ (lay_ok h.ok (by omega) hX) rfl _ hp hc ?_ fun j hj e => ⟨rfl, ?_⟩
  · rw [lay_page h.ok hi _ hp, if_pos rfl]; exact hb
  · rw [lay_page h.ok hi _ hj, if_neg e]

/-! ### Read, Number, Place -/
/-- two answers, bytes in a row of the call's own and an error; nothing that was there has turned -/
def Rd (w : World) (l : List Int) (err : Int) (e : Ending) (w' : World) : Prop :=
  ∃ A c, e = .returned (.tuple #[.slice A l.length c, .int .i64 err]) ∧ Own w' w.heap.size 5 .u8 (.slice A l.length c) l ∧ Chg (fun _ => False) w w'
theorem read_calls (hl : Lies w a s) (at_ n : Int) (hx : -9223372036854775808 ≤ at_ ∧ at_ ≤ 9223372036854775807) :
    Calls Try.prog 23 #[(.pointer (some ⟨a.g, 0, none⟩)), (.int .i64 at_), (.int .i64 n)] w (Rd w (readA s at_ n).1 (readA s at_ n).2) := by
  unfold readA
  by_cases h : within s at_ n
  · rw [if_pos h]
    have P := Lib.hid (part_ok hl at_ n h)
    have S := Lib.hid (hl.cut_sl at_ n h)
    have L := Lib.hid (got_length hl.ok h)
    have M : n.toNat ≤ 1024 := by have := h.2.2.2.2; omega
    unfold cut at P
    generalize got s at_ n = l at S L ⊢
    generalize a.pb.getD (at_ / 1024).toNat 0 = b at P S
    generalize (at_ % 1024).toNat = o at P S
    generalize hm : n.toNat = m at P L M
    have R : Hid (∀ A c e w', e = Ending.returned (.tuple #[.slice A l.length c, .int .i64 0]) → Own w' w.heap.size 5 .u8 (.slice A l.length c) l → Chg (fun b => w.heap.size ≤ b) w w' → Rd w l 0 e w') := fun A c e w' he ho hc => ⟨A, c, he, ho, hc.mono fun i h1 h2 => by omega⟩
    clear h hl hx hm
    go_enter Try.func23, Try.ntmps23
    go_wp2_with (first | (go_at_call 58; refine (P.out).mono ?_; rintro e w' ⟨rfl, rfl⟩) | (at_builtin; refine wpList_app rfl _ _ 48 rfl w.heap.size 5 .u8 1 Try.underlying48 infoByte _ [] rfl (Own.lit w 5 .u8 [] (Nat.zero_le _)) (some ⟨b, 1 + o, none⟩) _ (1024 - o) l rfl L.out (S.out.later (Chg.alloc _ w _) (Nat.le_refl _)) (fun e => by cases e) ?h63 ?hby ?hba ?_; (case h63 => unfold maxLen; simp; omega); (case hby => simp; omega); (case hba => simp); intro A' c' n' w3 hn' hown hchg; obtain rfl : n' = l.length := (by rw [L.out]; simpa using hn'); have O3 : Hid (Own w3 w.heap.size 5 .u8 (.slice A' l.length c') l) := hown; have C3 : Hid (Chg (fun b => w.heap.size ≤ b) w w3) := (Chg.alloc _ w _).trans hchg; clear hn' hown hchg))
    go_ret2
    exact R.out _ _ _ _ rfl O3.out C3.out
  · rw [if_neg h]
    have P := Lib.hid (part_no hl at_ n hx h)
    have R : Hid (∀ e w', e = Ending.returned (.tuple #[.slice none 0 0, .int .i64 1]) → w = w' → Rd w [] 1 e w') := fun e w' he hw => by
      subst hw; exact ⟨none, 0, he, Own.nil _ _ _ _, Chg.refl _ _⟩
    clear h hl hx
    go_enter Try.func23, Try.ntmps23
    go_wp2_with (go_at_call 58; refine (P.out).mono ?_; rintro e w' ⟨rfl, rfl⟩)
    go_ret2
    exact R.out _ _ rfl rfl
theorem number_calls (hl : Lies w a s) (at_ n : Int) (hx : -9223372036854775808 ≤ at_ ∧ at_ ≤ 9223372036854775807) :
    Calls Try.prog 63 #[(.pointer (some ⟨a.g, 0, none⟩)), (.int .i64 at_), (.int .i64 n)] w fun e w' => e = .returned (.tuple #[.int .u64 (number s at_ n).1, .int .i64 (number s at_ n).2]) ∧ w = w' := by
  unfold number
  by_cases h : within s at_ n
  · rw [if_pos h]
    have P := Lib.hid (part_ok hl at_ n h)
    have L := got_length hl.ok h
    have M : n.toNat ≤ 1024 - (at_ % 1024).toNat := by have := h.2.2.2.2; omega
    unfold cut at P
    have G := get_calls (some ⟨a.pb.getD (at_ / 1024).toNat 0, 1 + (at_ % 1024).toNat, none⟩) (got s at_ n) (1024 - (at_ % 1024).toNat) 0 n w (hl.cut_sl at_ n h) (got_bytes hl.ok at_ n) (by omega) (by omega) (by decide)
    rw [L] at G
    generalize (getC (got s at_ n) 0 n).1 = x1 at G ⊢
    generalize (getC (got s at_ n) 0 n).2 = x2 at G ⊢
    generalize a.pb.getD (at_ / 1024).toNat 0 = b at P G
    generalize (at_ % 1024).toNat = o at P G
    generalize n.toNat = m at P G
    have G := Lib.hid G
    clear h hl hx L M
    go_enter Try.func63, Try.ntmps63
    go_wp2_with (first | (go_at_call 58; refine (P.out).mono ?_; rintro e w' ⟨rfl, rfl⟩) | (go_at_call 90; refine (G.out).mono ?_; rintro e w' ⟨rfl, rfl⟩))
    go_ret2
    exact ⟨rfl, rfl⟩
  · rw [if_neg h]
    have P := Lib.hid (part_no hl at_ n hx h)
    clear h hl hx
    go_enter Try.func63, Try.ntmps63
    go_wp2_with (go_at_call 58; refine (P.out).mono ?_; rintro e w' ⟨rfl, rfl⟩)
    go_ret2
    exact ⟨rfl, rfl⟩
theorem place_calls (hl : Lies w a s) (at_ : Int) (hx : -9223372036854775808 ≤ at_ ∧ at_ ≤ 9223372036854775807) :
    Calls Try.prog 54 #[(.pointer (some ⟨a.g, 0, none⟩)), (.int .i64 at_)] w fun e w' => e = .returned (.tuple #[.int .i64 (place s at_).1, .int .i64 (place s at_).2]) ∧ w = w' := by
  unfold place
  by_cases h : within s at_ 4
  · rw [if_pos h]
    have P := Lib.hid (part_ok hl at_ 4 h)
    have L := got_length hl.ok h
    have M : (4 : Int).toNat ≤ 1024 - (at_ % 1024).toNat := by have := h.2.2.2.2; omega
    unfold cut at P
    have G := getplace_calls (some ⟨a.pb.getD (at_ / 1024).toNat 0, 1 + (at_ % 1024).toNat, none⟩) (got s at_ 4) (1024 - (at_ % 1024).toNat) 0 w (hl.cut_sl at_ 4 h) (got_bytes hl.ok at_ 4) (by omega) (by omega) (by decide)
    rw [L] at G
    generalize (getPlaceC (got s at_ 4) 0).1 = x1 at G ⊢
    generalize (getPlaceC (got s at_ 4) 0).2 = x2 at G ⊢
    generalize a.pb.getD (at_ / 1024).toNat 0 = b at P G
    generalize (at_ % 1024).toNat = o at P G
    have G := Lib.hid G
    clear h hl hx L M
    go_enter Try.func54, Try.ntmps54
    go_wp2_with (first | (go_at_call 58; refine (P.out).mono ?_; rintro e w' ⟨rfl, rfl⟩) | (go_at_call 87; refine (G.out).mono ?_; rintro e w' ⟨rfl, rfl⟩))
    go_ret2
    exact ⟨rfl, rfl⟩
  · rw [if_neg h]
    have P := Lib.hid (part_no hl at_ 4 hx h)
    clear h hl hx
    go_enter Try.func54, Try.ntmps54
    go_wp2_with (go_at_call 58; refine (P.out).mono ?_; rintro e w' ⟨rfl, rfl⟩)
    go_ret2
    exact ⟨rfl, rfl⟩

/-! ### Write, SetNumber, SetPlace -/
/-- one answer, an error; the arena is so now; nothing else that was there has turned -/
def Now (w : World) (a : Ar) (s' : St) (err : Int) (e : Ending) (w' : World) : Prop :=
  e = .returned (.int .i64 err) ∧ Lies w' a s' ∧ Chg (· ∈ a.pb) w w'
theorem lay_got (hs : Ok s) {at_ n : Int} (h : within s at_ n) : lay s at_ (got s at_ n) = s := by
  have := in_row hs h
  unfold lay got
  rw [splice_self _ _ _ (by omega)]
theorem setnumber_calls (hl : Lies w a s) (at_ n v : Int) (hx : -9223372036854775808 ≤ at_ ∧ at_ ≤ 9223372036854775807) (h0 : 0 ≤ v) (h1 : v < 18446744073709551616) :
    Calls Try.prog 78 #[(.pointer (some ⟨a.g, 0, none⟩)), (.int .i64 at_), (.int .i64 n), (.int .u64 v)] w (Now w a (setNumber s at_ n v).1 (setNumber s at_ n v).2) := by
  unfold setNumber
  by_cases h : within s at_ n
  · rw [if_pos h]
    have P := Lib.hid (part_ok hl at_ n h)
    have L := got_length hl.ok h
    have hp := page_of h
    have hP := pg_length hl.ok _ hp
    have M : (at_ % 1024).toNat + n.toNat ≤ 1024 := by have := h.2.2.2.2; have := h.1; omega
    unfold cut at P
    have G := put_calls (a.pb.getD (at_ / 1024).toNat 0) (1 + (at_ % 1024).toNat) (1024 - (at_ % 1024).toNat) 96 (pageCells (s.own.getD (at_ / 1024).toNat 0) (pg s.B (at_ / 1024).toNat)) (got s at_ n) 0 n v w (hl.page _ hp) (by rw [pageCells_length]; omega) (by omega) (by omega) (by decide) h0 h1
    rw [L, got_page hl.ok h, putRow_page _ _ _ _ _ (by omega), ← got_page hl.ok h] at G
    have R : Hid (∀ e w', e = Ending.returned (.int .i64 (putC (got s at_ n) 0 n v).2) → w' = w.setRow (a.pb.getD (at_ / 1024).toNat 0) (pageCells (s.own.getD (at_ / 1024).toNat 0) (splice (pg s.B (at_ / 1024).toNat) (at_ % 1024).toNat (putC (got s at_ n) 0 n v).1)).toArray → Now w a (lay s at_ (putC (got s at_ n) 0 n v).1) (putC (got s at_ n) 0 n v).2 e w') := fun e w' he hw => by
      subst hw
      have := hl.lay at_ (putC (got s at_ n) 0 n v).1 (by rw [putC_len, L, Int.toNat_of_nonneg h.1]; exact h) (bytes_putC _ _ _ _ (got_bytes hl.ok at_ n)) (Chg.setRow w _ _ rfl) (setRow_heap w _ _ _ _ (0, 0) (hl.page _ hp))
      exact ⟨he, this.1, this.2⟩
    generalize (putC (got s at_ n) 0 n v).2 = x2 at G R ⊢
    generalize a.pb.getD (at_ / 1024).toNat 0 = b at P G R
    generalize lay s at_ (putC (got s at_ n) 0 n v).1 = s' at R ⊢
    generalize (pageCells (s.own.getD (at_ / 1024).toNat 0) (splice (pg s.B (at_ / 1024).toNat) (at_ % 1024).toNat (putC (got s at_ n) 0 n v).1)).toArray = cs at G R
    generalize (at_ % 1024).toNat = o at P G
    generalize n.toNat = m at P G
    have G := Lib.hid G
    clear h hl hx L M hP hp h0 h1
    go_enter Try.func78, Try.ntmps78
    go_wp2_with (first | (go_at_call 58; refine (P.out).mono ?_; rintro e w' ⟨rfl, rfl⟩) | (go_at_call 104; refine (G.out).mono ?_; rintro e w' ⟨rfl, rfl⟩))
    go_ret
    exact R.out _ _ rfl rfl
  · rw [if_neg h]
    have P := Lib.hid (part_no hl at_ n hx h)
    have R : Hid (∀ e w', e = Ending.returned (.int .i64 1) → w = w' → Now w a s 1 e w') := fun e w' he hw => by subst hw; exact ⟨he, hl, Chg.refl _ _⟩
    clear h hl hx h0 h1
    go_enter Try.func78, Try.ntmps78
    go_wp2_with (go_at_call 58; refine (P.out).mono ?_; rintro e w' ⟨rfl, rfl⟩)
    go_ret
    exact R.out _ _ rfl rfl
theorem setplace_calls (hl : Lies w a s) (at_ p : Int) (hx : -9223372036854775808 ≤ at_ ∧ at_ ≤ 9223372036854775807) (hv : -9223372036854775808 ≤ p ∧ p ≤ 9223372036854775807) :
    Calls Try.prog 77 #[(.pointer (some ⟨a.g, 0, none⟩)), (.int .i64 at_), (.int .i64 p)] w (Now w a (setPlace s at_ p).1 (setPlace s at_ p).2) := by
  unfold setPlace
  by_cases h : within s at_ 4
  · rw [if_pos h]
    have P := Lib.hid (part_ok hl at_ 4 h)
    have L := got_length hl.ok h
    have hp := page_of h
    have hP := pg_length hl.ok _ hp
    have M : (at_ % 1024).toNat + 4 ≤ 1024 := by have := h.2.2.2.2; omega
    have e4 : (4 : Int).toNat = 4 := rfl
    unfold cut at P
    have G := putplace_calls (a.pb.getD (at_ / 1024).toNat 0) (1 + (at_ % 1024).toNat) (1024 - (at_ % 1024).toNat) 96 (pageCells (s.own.getD (at_ / 1024).toNat 0) (pg s.B (at_ / 1024).toNat)) (got s at_ 4) 0 p w (hl.page _ hp) (by rw [pageCells_length]; omega) (by omega) (by omega) (by decide) hv
    rw [L, got_page hl.ok h, e4, putPlaceRow_page _ _ _ _ (by omega), ← e4, ← got_page hl.ok h] at G
    have R : Hid (∀ e w', e = Ending.returned (.int .i64 (putPlaceC (got s at_ 4) 0 p).2) → w' = w.setRow (a.pb.getD (at_ / 1024).toNat 0) (pageCells (s.own.getD (at_ / 1024).toNat 0) (splice (pg s.B (at_ / 1024).toNat) (at_ % 1024).toNat (putPlaceC (got s at_ 4) 0 p).1)).toArray → Now w a (lay s at_ (putPlaceC (got s at_ 4) 0 p).1) (putPlaceC (got s at_ 4) 0 p).2 e w') := fun e w' he hw => by
      subst hw
      have := hl.lay at_ (putPlaceC (got s at_ 4) 0 p).1 (by rw [putPlaceC_length, L]; exact h) (bytes_putPlaceC _ _ _ (got_bytes hl.ok at_ 4)) (Chg.setRow w _ _ rfl) (setRow_heap w _ _ _ _ (0, 0) (hl.page _ hp))
      exact ⟨he, this.1, this.2⟩
    generalize (putPlaceC (got s at_ 4) 0 p).2 = x2 at G R ⊢
    generalize a.pb.getD (at_ / 1024).toNat 0 = b at P G R
    generalize lay s at_ (putPlaceC (got s at_ 4) 0 p).1 = s' at R ⊢
    generalize (pageCells (s.own.getD (at_ / 1024).toNat 0) (splice (pg s.B (at_ / 1024).toNat) (at_ % 1024).toNat (putPlaceC (got s at_ 4) 0 p).1)).toArray = cs at G R
    generalize (at_ % 1024).toNat = o at P G
    have G := Lib.hid G
    clear h hl hx L M hP hp e4 hv
    go_enter Try.func77, Try.ntmps77
    go_wp2_with (first | (go_at_call 58; refine (P.out).mono ?_; rintro e w' ⟨rfl, rfl⟩) | (go_at_call 103; refine (G.out).mono ?_; rintro e w' ⟨rfl, rfl⟩))
    go_ret
    exact R.out _ _ rfl rfl
  · rw [if_neg h]
    have P := Lib.hid (part_no hl at_ 4 hx h)
    have R : Hid (∀ e w', e = Ending.returned (.int .i64 1) → w = w' → Now w a s 1 e w') := fun e w' he hw => by subst hw; exact ⟨he, hl, Chg.refl _ _⟩
    clear h hl hx hv
    go_enter Try.func77, Try.ntmps77
    go_wp2_with (go_at_call 58; refine (P.out).mono ?_; rintro e w' ⟨rfl, rfl⟩)
    go_ret
    exact R.out _ _ rfl rfl

end Go.Proofs.Ytmffdlebahdihaa.Arena

/- The program's arena: Return, Free, Write, Grant, New: what each answers, and what it writes. -/
namespace Go.Proofs.Ytmffdlebahdihaa.Mem
open Go Go.RowKit
set_option linter.unusedVariables false
set_option maxRecDepth 100000
/-- copy into a row that is known whole -/
theorem wpList_copy_row {P : Program} {w : World} {ops : Array Oper} {rest : List Oper} {o : Oper} {a : Act} {Q : Exit → Act → World → Prop} (hgd : o.guard = none) (d s : Operand) (dT sT : TypeId)
    (ho : o.op = .call { callee := .builtin .copy, args := #[d, s], argTypes := #[dT, sT] }) (elem : TypeId) (hu : P.underlying dT = some (.slice elem)) (hsz : (P.info? elem).map (·.size) = some 1)
    (g off dLen dCap : Nat) (A : Option Addr) (sLen sCap : Nat) (hd : a.eval d = .slice (some ⟨g, off, none⟩) dLen dCap) (hs : a.eval s = .slice A sLen sCap)
    (cur : List Value) (t : TypeId) (hg : w.heap[g]? = some (.cells cur.toArray t (0, 0))) (k : IntKind) (l : List Int) (hn : l.length = Nat.min sLen dLen) (hsl : Sl w k A l)
    (hfit : off + l.length ≤ cur.length)
    (h : wpList P ops Q rest (a.put o.dst (goInt l.length)) (w.setRow g (splice cur off (nums k l)).toArray)) : wpList P ops Q (o :: rest) a w := by
  by_cases h0 : l.length = 0
  · obtain rfl : l = [] := List.eq_nil_of_length_eq_zero h0
    refine wpList_copy_nothing hgd d s dT sT ho elem hu hsz _ _ dLen dCap sLen sCap hd hs (by simpa using hn.symm) ?_
    have e : w.setRow g (splice cur off (nums k [])).toArray = w := by
      show w.setRow g (splice cur off []).toArray = w
      rw [splice_none]; exact setRow_same hg
    rw [e] at h
    exact h
  · obtain ⟨ad, rfl, _⟩ := hsl 0 (by omega)
    refine wpList_copy_own hgd d s dT sT ho elem hu hsz g off dLen dCap ad sLen sCap hd hs cur.toArray t hg (nums k l) (by rw [nums_length]; exact hn) (fun j v hj => ?_) (by rw [nums_length]; simpa using hfit) (fun v hv => ?_) ?_
    · have hjl : j < l.length := by
        rcases Nat.lt_or_ge j l.length with h' | h'
        · exact h'
        · rw [List.getElem?_eq_none (by rw [nums_length]; exact h')] at hj; cases hj
      obtain ⟨ad', e', hc⟩ := hsl j hjl
      cases e'
      rw [nums_get k l j hjl] at hj
      cases hj
      exact hc
    · simp only [nums, List.mem_map] at hv
      obtain ⟨y, _, rfl⟩ := hv
      rfl
    · rw [nums_length]
      unfold splice at h
      rw [nums_length] at h
      exact h
end Go.Proofs.Ytmffdlebahdihaa.Mem
namespace Go.Proofs.Ytmffdlebahdihaa.Arena
open Go Go.RowKit Go.Proofs.Ytmffdlebahdihaa.Mem Go.Proofs.Ytmffdlebahdihaa.CodecPure Go.Proofs.Ytmffdlebahdihaa.ArenaPure Go.Proofs.Ytmffdlebahdihaa.Codec
set_option linter.unusedVariables false
set_option maxRecDepth 100000
variable {w w' : World} {a : Ar} {s : St}

/-! ### Write -/
theorem write_calls (hl : Lies w a s) (at_ : Int) (B : Option Addr) (c : Nat) (l : List Int) (hs : Sl w .u8 B l) (hb : Bytes l) (hm : l.length ≤ 1000000000) (hx : -9223372036854775808 ≤ at_ ∧ at_ ≤ 9223372036854775807) :
    Calls Try.prog 22 #[(.pointer (some ⟨a.g, 0, none⟩)), (.int .i64 at_), .slice B l.length c] w (Now w a (write s at_ l).1 (write s at_ l).2) := by
  unfold write
  by_cases h : within s at_ l.length
  · rw [if_pos h]
    have P := Lib.hid (part_ok hl at_ l.length h)
    have hp := page_of h
    have hP := pg_length hl.ok _ hp
    have M : (at_ % 1024).toNat + l.length ≤ 1024 := by have := h.2.2.2.2; omega
    unfold cut at P
    have HB := Lib.hid (hl.page _ hp)
    have HC : Hid (1 + (at_ % 1024).toNat + l.length ≤ (pageCells (s.own.getD (at_ / 1024).toNat 0) (pg s.B (at_ / 1024).toNat)).length) := by show _ ≤ _; rw [pageCells_length]; omega
    have HS := Lib.hid hs
    have R : Hid (∀ e w', e = Ending.returned (.int .i64 0) → w' = w.setRow (a.pb.getD (at_ / 1024).toNat 0) (splice (pageCells (s.own.getD (at_ / 1024).toNat 0) (pg s.B (at_ / 1024).toNat)) (1 + (at_ % 1024).toNat) (nums .u8 l)).toArray → Now w a (lay s at_ l) 0 e w') := fun e w' he hw => by
      subst hw
      rw [splice_cells_of]
      have := hl.lay at_ l h hb (Chg.setRow w _ _ rfl) (setRow_heap w _ _ _ _ (0, 0) (hl.page _ hp))
      exact ⟨he, this.1, this.2⟩
    generalize a.pb.getD (at_ / 1024).toNat 0 = b at P HB R
    generalize lay s at_ l = s' at R ⊢
    generalize pageCells (s.own.getD (at_ / 1024).toNat 0) (pg s.B (at_ / 1024).toNat) = cs at HB HC R
    generalize (at_ % 1024).toNat = o at P HC R
    have e : ((l.length : Int)).toNat = l.length := by omega
    rw [e] at P
    have N : Hid (l.length = Nat.min l.length l.length) := (Nat.min_self _).symm
    clear h hl hx M hP hp hs hb e
    go_enter Try.func22, Try.ntmps22
    go_wp2_with (first | (go_at_call 58; refine (P.out).mono ?_; rintro e w' ⟨rfl, rfl⟩) | (refine wpList_copy_row rfl _ _ 48 48 rfl 5 Try.underlying48 (by kernel_rfl) b (1 + o) _ _ B _ c rfl rfl cs _ HB.out .u8 l N.out HS.out HC.out ?_))
    go_ret
    exact R.out _ _ rfl rfl
  · rw [if_neg h]
    have P := Lib.hid (part_no hl at_ l.length hx h)
    have R : Hid (∀ e w', e = Ending.returned (.int .i64 1) → w = w' → Now w a s 1 e w') := fun e w' he hw => by subst hw; exact ⟨he, hl, Chg.refl _ _⟩
    clear h hl hx hs hb
    go_enter Try.func22, Try.ntmps22
    go_wp2_with (go_at_call 58; refine (P.out).mono ?_; rintro e w' ⟨rfl, rfl⟩)
    go_ret
    exact R.out _ _ rfl rfl

/-! ### Return -/
theorem getD_set (l : List Int) (i j : Nat) (v : Int) (hi : i < l.length) : (l.set i v).getD j 0 = if j = i then v else l.getD j 0 := by
  rw [List.getD_eq_getElem?_getD, List.getD_eq_getElem?_getD, List.getElem?_set]
  by_cases e : i = j
  · subst e; rw [if_pos rfl, if_pos hi, if_pos rfl]; rfl
  · rw [if_neg e, if_neg (fun h => e h.symm)]
theorem ok_set (hs : Ok s) (i : Nat) (v : Int) (hi : i < s.own.length) (h : -1 ≤ v ∧ v < 8) (B : List Int) (hB : B.length = s.B.length) (hb : Bytes B) : Ok ⟨s.own.set i v, B⟩ := by
  refine ⟨?_, ?_, ?_, hb, fun j hj => ?_⟩
  · show 1 ≤ (s.own.set i v).length
    rw [List.length_set]; exact hs.low
  · show (s.own.set i v).length ≤ 32
    rw [List.length_set]; exact hs.high
  · show B.length = 1024 * (s.own.set i v).length
    rw [List.length_set, hB]; exact hs.len
  · have hj' : j < s.own.length := by simpa using hj
    show -1 ≤ (s.own.set i v).getD j 0 ∧ (s.own.set i v).getD j 0 < 8
    rw [getD_set _ _ _ _ hi]
    split
    · exact h
    · exact hs.cls j hj'
theorem return_calls (hl : Lies w a s) (n : Int) :
    Calls Try.prog 50 #[(.pointer (some ⟨a.g, 0, none⟩)), (.int .i64 n)] w (Now w a (ret s n).1 (ret s n).2) := by
  unfold ret
  by_cases h : n < 0 ∨ (s.own.length : Int) ≤ n
  · rw [if_pos h]
    have F := Lib.hid (find_no hl n h)
    have R : Hid (∀ e w', e = Ending.returned (.int .i64 1) → w = w' → Now w a s 1 e w') := fun e w' he hw => by subst hw; exact ⟨he, hl, Chg.refl _ _⟩
    clear h hl
    go_enter Try.func50, Try.ntmps50
    go_wp2_with (go_at_call 83; refine (F.out).mono ?_; rintro e w' ⟨rfl, rfl⟩)
    go_ret
    exact R.out _ _ rfl rfl
  · rw [if_neg h]
    obtain ⟨i, rfl⟩ := Int.eq_ofNat_of_zero_le (show 0 ≤ n by omega)
    have hi : i < s.own.length := by omega
    have F := Lib.hid (find_ok hl i hi)
    have k := hl.cls i hi
    have kc := (hl.ok.cls i hi).1
    have e : ((i : Int)).toNat = i := by omega
    rw [e]
    by_cases h1 : s.own.getD i 0 < 0
    · rw [if_pos h1]
      have e1 : s.own.getD i 0 = -1 := by omega
      have R : Hid (∀ e w', e = Ending.returned (.int .i64 5) → w = w' → Now w a s 5 e w') := fun e w' he hw => by subst hw; exact ⟨he, hl, Chg.refl _ _⟩
      rw [e1] at k
      generalize a.pb.getD i 0 = b at k F
      clear h hl hi e h1 e1 kc
      go_enter Try.func50, Try.ntmps50
      go_wp2_with (go_at_call 83; refine (F.out).mono ?_; rintro e w' ⟨rfl, rfl⟩)
      go_ret
      exact R.out _ _ rfl rfl
    · rw [if_neg h1]
      have hp := hl.page i hi
      have R : Hid (∀ e w', e = Ending.returned (.int .i64 0) → w' = w.setCell ⟨a.pb.getD i 0, 0, none⟩ (.int .i64 (-1)) → Now w a ⟨s.own.set i (-1), s.B⟩ 0 e w') := fun e w' he hw => by
        subst hw
        have := hl.put ⟨s.own.set i (-1), s.B⟩ (ok_set hl.ok i (-1) hi (by decide) _ rfl hl.ok.bytes) (by simp) i hi (Chg.setCell w ⟨a.pb.getD i 0, 0, none⟩ (.int .i64 (-1)) rfl) (by
          rw [setCell_row hp, setRow_heap w _ _ _ _ (0, 0) hp]
          show some (Obj.cells _ _ _) = some (Obj.cells (pageCells ((s.own.set i (-1)).getD i 0) _).toArray _ _)
          rw [getD_set _ _ _ _ hi, if_pos rfl]
          simp [pageCells]) (fun j hj e => ⟨by show (s.own.set i (-1)).getD j 0 = _; rw [getD_set _ _ _ _ hi, if_neg e], rfl⟩)
        exact ⟨he, this.1, this.2⟩
      have fz : w.frozen? ⟨a.pb.getD i 0, 0, none⟩ = false := blk_frozen hp 0
      have w1 : (s.own.getD i 0 == -1) = false := by rw [beq_eq_false_iff_ne]; omega
      generalize s.own.set i (-1) = o' at R
      generalize s.own.getD i 0 = c at k w1
      generalize a.pb.getD i 0 = b at k F R fz
      clear h hl hi e kc hp h1
      go_enter Try.func50, Try.ntmps50
      go_wp2_with (go_at_call 83; refine (F.out).mono ?_; rintro e w' ⟨rfl, rfl⟩)
      go_ret
      exact R.out _ _ rfl rfl

/-! ### Free -/
theorem countP_take (p : Int → Bool) (l : List Int) (k : Nat) (hk : k < l.length) : (l.take (k + 1)).countP p = (l.take k).countP p + if p (l.getD k 0) then 1 else 0 := by
  rw [List.take_succ_eq_append_getElem hk, List.countP_append, List.getD_eq_getElem?_getD, List.getElem?_eq_getElem hk]
  simp [List.countP_cons]
theorem free_calls (hl : Lies w a s) : Calls Try.prog 18 #[(.pointer (some ⟨a.g, 0, none⟩))] w fun e w' => e = .returned (.int .i64 (free s)) ∧ w = w' := by
  have k1 := hl.hd
  have r := hl.ok.high
  have H := Lib.hid hl
  clear hl
  have N := Lib.hid (rfl : s.own.length = s.own.length)
  revert k1 r N
  generalize hn : s.own.length = n
  intro k1 r N
  have hn := Lib.hid hn
  go_enter Try.func18, Try.ntmps18
  go_wp2
  go_loop [3, 11] (fun c i => ∃ k : Nat, k ≤ n ∧ i = .int .i64 k ∧ c = .int .i64 ((s.own.take k).countP (fun c => decide (c < 0)) : Nat)) (fun _ i => n - (intOf i).toNat)
  case atStart => exact ⟨0, Nat.zero_le _, rfl, rfl⟩
  case round =>
    obtain ⟨k, hk, rfl, rfl⟩ := hrel
    have hc : (s.own.take k).countP (fun c => decide (c < 0)) ≤ k := Nat.le_trans List.countP_le_length (List.length_take_le _ _)
    by_cases hlt : k < n
    · have hi : k < s.own.length := by rw [hn.out]; exact hlt
      have p1 := H.out.row k hi
      have p2 := H.out.cls k hi
      have p3 := (H.out.ok.cls k hi).1
      have T := Lib.hid (countP_take (fun c => decide (c < 0)) s.own k hi)
      generalize (s.own.take k).countP (fun c => decide (c < 0)) = m at T hc ⊢
      generalize s.own.getD k 0 = c at p2 p3 T
      generalize a.pb.getD k 0 = b at p1 p2
      clear hi
      by_cases h0 : c < 0
      · obtain rfl : c = -1 := by omega
        go_wp2
        go_round
        case rel => exact ⟨k + 1, hlt, by go_num, by rw [T.out]; simp⟩
        case measure => simp [intOf]; omega
      · have w1 : (c == -1) = false := by rw [beq_eq_false_iff_ne]; omega
        have T2 : Hid ((s.own.take (k + 1)).countP (fun c => decide (c < 0)) = m) := by have := T.out; rw [if_neg (by simpa using h0)] at this; exact this
        go_wp2
        go_round
        case rel => exact ⟨k + 1, hlt, by go_num, by rw [T2.out]⟩
        case measure => simp [intOf]; omega
    · obtain rfl : k = n := by omega
      clear hc
      have T : Hid (((s.own.take k).countP (fun c => decide (c < 0))) = free s) := by
        show _ = _
        rw [List.take_of_length_le (by rw [hn.out]; exact Nat.le_refl _)]; rfl
      rw [T.out]
      clear T hn
      go_wp2
      go_ret
      exact ⟨rfl, rfl⟩

end Go.Proofs.Ytmffdlebahdihaa.Arena

/- The program's arena: Grant and New: what each answers, and what it writes. -/
namespace Go.Proofs.Ytmffdlebahdihaa.Mem
open Go Go.RowKit
set_option linter.unusedVariables false
set_option maxRecDepth 100000
theorem wpList_build_one {P : Program} {ops : Array Oper} {rest : List Oper} {o : Oper} {a : Act} {w : World} {Q : Exit → Act → World → Prop} (hg : o.guard = none) (t : TypeId) (i : Nat) (x : Operand) (ho : o.op = .build t #[(i, x)])
    (v : Value) (hv : a.eval x = v) (cells : Array Value) (hf : P.built t [(i, v)] = some cells)
    (h : wpList P ops Q rest (a.put o.dst (.agg cells)) w) : wpList P ops Q (o :: rest) a w := by
  have e : (#[(i, x)].map fun (i, x) => (i, a.eval x)).toList = [(i, v)] := by simp [hv]
  exact wpList_build hg t _ ho (by rw [e, hf]; rfl) (by rw [e, hf]; exact h)
end Go.Proofs.Ytmffdlebahdihaa.Mem
namespace Go.Proofs.Ytmffdlebahdihaa.Arena
open Go Go.RowKit Go.Proofs.Ytmffdlebahdihaa.Mem Go.Proofs.Ytmffdlebahdihaa.CodecPure Go.Proofs.Ytmffdlebahdihaa.ArenaPure Go.Proofs.Ytmffdlebahdihaa.Codec
set_option linter.unusedVariables false
set_option maxRecDepth 100000
variable {w w' : World} {a : Ar} {s : St}

theorem page_built (c : Int) : Try.prog.built 96 [(0, .int .i64 c)] = some (pageCells c Z1024).toArray := by kernel_rfl
theorem page_one (c : Int) : (pageCells c Z1024).toArray.all (·.oneCell') = true := by
  rw [Array.all_eq_true_iff_forall_mem]
  intro x hx
  simp only [pageCells, nums, List.mem_toArray, List.mem_cons, List.mem_map] at hx
  rcases hx with rfl | ⟨y, _, rfl⟩ <;> rfl
theorem page_info : (Try.prog.info? 96).map (·.size) = some 1025 := by kernel_rfl
theorem first_eq (l : List Int) (k : Nat) (hk : k < l.length) (h0 : l.getD k 0 < 0) (h : ∀ j, j < k → 0 ≤ l.getD j 0) : first l = k := by
  unfold first
  rw [List.findIdx_eq hk]
  refine ⟨?_, fun j hj => ?_⟩
  · rw [List.getD_eq_getElem?_getD, List.getElem?_eq_getElem hk] at h0
    simpa using h0
  · have := h j hj
    rw [List.getD_eq_getElem?_getD, List.getElem?_eq_getElem (by omega)] at this
    simp at this ⊢; omega
theorem first_none (l : List Int) (h : ∀ j, j < l.length → 0 ≤ l.getD j 0) : ¬ first l < l.length := by
  unfold first
  rw [List.findIdx_lt_length]
  rintro ⟨x, hx, h1⟩
  obtain ⟨j, hj, rfl⟩ := List.mem_iff_getElem.1 hx
  have := h j hj
  rw [List.getD_eq_getElem?_getD, List.getElem?_eq_getElem hj] at this
  have h1 : l[j] < 0 := by simpa using h1
  have : 0 ≤ l[j] := by simpa using this
  omega
/-- the arena behind a grant -/
def granted (s : St) (k : Nat) (c : Int) : St := ⟨s.own.set k c, splice s.B (1024 * k) Z1024⟩
theorem granted_pg (hs : Ok s) (k j : Nat) (hk : k < s.own.length) (hj : j < s.own.length) : pg (splice s.B (1024 * k) Z1024) j = if j = k then Z1024 else pg s.B j := by
  have hlen := hs.len
  apply List.ext_getElem?
  intro i
  unfold pg
  rw [List.getElem?_take]
  by_cases hi : i < 1024
  · rw [if_pos hi, List.getElem?_drop, splice_get _ _ _ (by rw [Z1024_length]; omega), Z1024_length]
    by_cases e : j = k
    · rw [if_pos e, if_pos (by omega)]; congr 1; omega
    · rw [if_neg e, if_neg (by omega), List.getElem?_take, if_pos hi, List.getElem?_drop]
  · rw [if_neg hi]
    by_cases e : j = k
    · rw [if_pos e, List.getElem?_eq_none (by rw [Z1024_length]; omega)]
    · rw [if_neg e, List.getElem?_take, if_neg hi]
theorem granted_ok (hs : Ok s) (k : Nat) (c : Int) (hk : k < s.own.length) (hc : 0 ≤ c ∧ c < 8) : Ok (granted s k c) := by
  have hlen := hs.len
  exact ok_set hs k c hk ⟨by omega, hc.2⟩ _ (length_splice _ _ _ (by rw [Z1024_length]; omega)) (bytes_splice _ _ _ hs.bytes Z1024_bytes)
theorem Lies.grant (h : Lies w a s) (k : Nat) (c : Int) (hk : k < s.own.length) (hc : 0 ≤ c ∧ c < 8) : Lies (w.setRow (a.pb.getD k 0) (pageCells c Z1024).toArray) a (granted s k c) ∧ Chg (· ∈ a.pb) w (w.setRow (a.pb.getD k 0) (pageCells c Z1024).toArray) := by
  refine h.put (granted s k c) (granted_ok h.ok k c hk hc) (by simp [granted]) k hk (Chg.setRow w _ _ rfl) ?_ fun j hj e => ⟨?_, ?_⟩
  · rw [setRow_heap w _ _ _ _ (0, 0) (h.page k hk)]
    show some (Obj.cells _ _ _) = some (Obj.cells (pageCells ((s.own.set k c).getD k 0) (pg (splice s.B (1024 * k) Z1024) k)).toArray _ _)
    rw [getD_set _ _ _ _ hk, if_pos rfl, granted_pg h.ok k k hk hk, if_pos rfl]
  · show (s.own.set k c).getD j 0 = _
    rw [getD_set _ _ _ _ hk, if_neg e]
  · show pg (splice s.B (1024 * k) Z1024) j = _
    rw [granted_pg h.ok k j hk hj, if_neg e]
/-- two answers, numbers; the arena is so now; nothing else that was there has turned -/
def Now2 (w : World) (a : Ar) (s' : St) (x y : Int) (e : Ending) (w' : World) : Prop :=
  e = .returned (.tuple #[.int .i64 x, .int .i64 y]) ∧ Lies w' a s' ∧ Chg (· ∈ a.pb) w w'
set_option maxRecDepth 100000 in
theorem grant_calls (hl : Lies w a s) (c : Int) :
    Calls Try.prog 52 #[(.pointer (some ⟨a.g, 0, none⟩)), (.int .i64 c)] w (Now2 w a (grant s c).1 (grant s c).2.1 (grant s c).2.2) := by
  unfold grant
  by_cases h : c < 0 ∨ 8 ≤ c
  · rw [if_pos h]
    have R : Hid (∀ e w', e = Ending.returned (.tuple #[.int .i64 0, .int .i64 1]) → w = w' → Now2 w a s 0 1 e w') := fun e w' he hw => by subst hw; exact ⟨he, hl, Chg.refl _ _⟩
    clear hl
    rcases h with h | h
    · go_enter Try.func52, Try.ntmps52
      go_wp2
      go_ret2
      exact R.out _ _ rfl rfl
    · have h' : ¬ c < 0 := by omega
      go_enter Try.func52, Try.ntmps52
      go_wp2
      go_ret2
      exact R.out _ _ rfl rfl
  · rw [if_neg h]
    have h1 : 0 ≤ c := by omega
    have h2 : c < 8 := by omega
    have k1 := hl.hd
    have r := hl.ok.high
    have H := Lib.hid hl
    have HF : Hid (∀ k, k < s.own.length → s.own.getD k 0 < 0 → (∀ j, j < k → 0 ≤ s.own.getD j 0) → ∀ e w', e = Ending.returned (.tuple #[.int .i64 k, .int .i64 0]) → w' = w.setRow (a.pb.getD k 0) (pageCells c Z1024).toArray → Now2 w a (if first s.own < s.own.length then (⟨s.own.set (first s.own) c, splice s.B (1024 * first s.own) Z1024⟩, (first s.own : Int), 0) else (s, 0, 2) : St × Int × Int).1 (if first s.own < s.own.length then (⟨s.own.set (first s.own) c, splice s.B (1024 * first s.own) Z1024⟩, (first s.own : Int), 0) else (s, 0, 2) : St × Int × Int).2.1 (if first s.own < s.own.length then (⟨s.own.set (first s.own) c, splice s.B (1024 * first s.own) Z1024⟩, (first s.own : Int), 0) else (s, 0, 2) : St × Int × Int).2.2 e w') := fun k hk h0 hj e w' he hw => by
      rw [first_eq _ k hk h0 hj, if_pos hk]
      subst hw
      have := hl.grant k c hk ⟨h1, h2⟩
      exact ⟨he, this.1, this.2⟩
    have HN : Hid ((∀ j, j < s.own.length → 0 ≤ s.own.getD j 0) → ∀ e w', e = Ending.returned (.tuple #[.int .i64 0, .int .i64 2]) → w = w' → Now2 w a (if first s.own < s.own.length then (⟨s.own.set (first s.own) c, splice s.B (1024 * first s.own) Z1024⟩, (first s.own : Int), 0) else (s, 0, 2) : St × Int × Int).1 (if first s.own < s.own.length then (⟨s.own.set (first s.own) c, splice s.B (1024 * first s.own) Z1024⟩, (first s.own : Int), 0) else (s, 0, 2) : St × Int × Int).2.1 (if first s.own < s.own.length then (⟨s.own.set (first s.own) c, splice s.B (1024 * first s.own) Z1024⟩, (first s.own : Int), 0) else (s, 0, 2) : St × Int × Int).2.2 e w') := fun hj e w' he hw => by
      rw [if_neg (first_none _ hj)]
      subst hw
      exact ⟨he, hl, Chg.refl _ _⟩
    revert HF HN
    generalize (if first s.own < s.own.length then (⟨s.own.set (first s.own) c, splice s.B (1024 * first s.own) Z1024⟩, (first s.own : Int), 0) else (s, 0, 2) : St × Int × Int) = q
    intro HF HN
    have PB := Lib.hid (page_built c)
    have PO := Lib.hid (page_one c)
    have PS : Hid ((Try.prog.info? 96).map (·.size) = some (pageCells c Z1024).toArray.size) := by
      show _ = _
      rw [page_info, List.size_toArray, pageCells_length, Z1024_length]
    have PZ : Hid ((pageCells c Z1024).toArray.size = 1025) := by
      show _ = _
      rw [List.size_toArray, pageCells_length, Z1024_length]
    generalize (pageCells c Z1024).toArray = cs at HF PB PO PS PZ
    clear hl h
    generalize hn : s.own.length = n at k1 r HF HN
    have hn' := Lib.hid hn
    clear hn
    go_enter Try.func52, Try.ntmps52
    go_wp2
    go_loop [19] (fun i => ∃ k : Nat, k ≤ n ∧ i = .int .i64 k ∧ Hid (∀ j, j < k → 0 ≤ s.own.getD j 0)) (fun i => n - (intOf i).toNat)
    case atStart => exact ⟨0, Nat.zero_le _, rfl, fun j hj => by omega⟩
    case round =>
      obtain ⟨k, hk, rfl, J⟩ := hrel
      by_cases hlt : k < n
      · have hi : k < s.own.length := by rw [hn'.out]; exact hlt
        have p1 := H.out.row k hi
        have p2 := H.out.cls k hi
        have p3 := (H.out.ok.cls k hi).1
        by_cases h0 : s.own.getD k 0 < 0
        · have F := Lib.hid (HF.out k hlt h0 J.out)
          have p4 := Lib.hid (H.out.page k hi)
          have PL : Hid ((pageCells (s.own.getD k 0) (pg s.B k)).toArray.size = cs.size) := by
            show _ = _
            rw [PZ.out, List.size_toArray, pageCells_length, pg_length H.out.ok k hi]
          generalize (pageCells (s.own.getD k 0) (pg s.B k)).toArray = old at p4 PL
          have e1 : s.own.getD k 0 = -1 := by omega
          rw [e1] at p2
          generalize a.pb.getD k 0 = b at p1 p2 p4 F
          clear hi h0 e1 p3
          go_wp2_with (first | (refine wpList_build_one rfl 96 0 (.tmp 30) rfl _ rfl cs PB.out ?_) | (refine wpList_store_row rfl 96 (.tmp 32) (.tmp 31) rfl b cs rfl rfl 96 old p4.out PS.out PL.out PO.out ?_))
          go_ret2
          exact F.out _ _ rfl rfl
        · have w1 : (s.own.getD k 0 == -1) = false := by rw [beq_eq_false_iff_ne]; omega
          have J2 : Hid (∀ j, j < k + 1 → 0 ≤ s.own.getD j 0) := fun j hj => by
            rcases Nat.lt_or_ge j k with h' | h'
            · exact J.out j h'
            · obtain rfl : j = k := by omega
              omega
          generalize s.own.getD k 0 = c at p2 p3 w1
          generalize a.pb.getD k 0 = b at p1 p2
          clear hi h0
          go_wp2
          go_round
          case rel => exact ⟨k + 1, hlt, by go_num, J2⟩
          case measure => simp [intOf]; omega
      · obtain rfl : k = n := by omega
        have F := Lib.hid (HN.out J.out)
        clear HF HN
        go_wp2
        go_ret2
        exact F.out _ _ rfl rfl

end Go.Proofs.Ytmffdlebahdihaa.Arena
namespace Go.Proofs.Ytmffdlebahdihaa.Arena
open Go Go.RowKit Go.Proofs.Ytmffdlebahdihaa.Mem Go.Proofs.Ytmffdlebahdihaa.CodecPure Go.Proofs.Ytmffdlebahdihaa.ArenaPure Go.Proofs.Ytmffdlebahdihaa.Codec
set_option linter.unusedVariables false
set_option maxRecDepth 100000
variable {w w' : World} {a : Ar} {s : St}
/-! ### New -/
def ptr (b : Nat) : Value := .pointer (some ⟨b, 0, none⟩)
/-- pages made so far, and the header that leads to them -/
structure Made (w : World) (B g : Nat) (v : Value) (pb : List Nat) : Prop where
  head : w.heap[g]? = some (.cells #[v] 92 (0, 0))
  low : B ≤ g
  row : w.ownsRow B 93 1 v pb.length (pb.map ptr)
  page : ∀ i, i < pb.length → w.heap[pb.getD i 0]? = some (.cells (pageCells (-1) Z1024).toArray 96 (0, 0))
  inj : ∀ i j, i < pb.length → j < pb.length → pb.getD i 0 = pb.getD j 0 → i = j
  far : ∀ b, b ∈ pb → g < b
  rowfar : ∀ r, v.ownBlock = some r → r ≠ g ∧ r ∉ pb
theorem heap_alloc_at (w : World) (o : Obj) : (w.alloc o).heap[w.heap.size]? = some o := by
  show (w.heap.push o)[w.heap.size]? = some o
  rw [Array.getElem?_push_size]
theorem Made.start (w : World) : Made (w.alloc (.cells #[.slice none 0 0] 92)) w.heap.size w.heap.size (.slice none 0 0) [] where
  head := heap_alloc_at w _
  low := Nat.le_refl _
  row := World.ownsRow_nil _ _ _ 1
  page i hi := by simp at hi
  inj i j hi := by simp at hi
  far b hb := by simp at hb
  rowfar r h := by simp [Value.ownBlock] at h
theorem mem_getD (l : List Nat) (i : Nat) (h : i < l.length) : l.getD i 0 ∈ l := by
  rw [List.getD_eq_getElem?_getD, List.getElem?_eq_getElem h]; exact List.getElem_mem _
theorem getD_snoc (l : List Nat) (x i : Nat) : (l ++ [x]).getD i 0 = if i < l.length then l.getD i 0 else if i = l.length then x else 0 := by
  rw [List.getD_eq_getElem?_getD, List.getD_eq_getElem?_getD]
  by_cases h : i < l.length
  · rw [if_pos h, List.getElem?_append_left h]
  · rw [if_neg h, List.getElem?_append_right (by omega)]
    by_cases e : i = l.length
    · subst e; simp
    · rw [if_neg e, List.getElem?_eq_none (by simp; omega)]; rfl
/-- one page more: w1 is w with the page in a new block and what append wrote; w2 with the header turned -/
theorem Made.step {w w1 : World} {B g : Nat} {v v' : Value} {pb : List Nat} (h : Made w B g v pb) (hc : Chg (fun b => v.ownBlock = some b) w w1)
    (hp : w1.heap[w.heap.size]? = some (.cells (pageCells (-1) Z1024).toArray 96 (0, 0)))
    (hrow : w1.ownsRow B 93 1 v' (pb.length + 1) (pb.map ptr ++ [ptr w.heap.size]))
    (hat : v'.ownBlock = v.ownBlock ∨ ∃ r, v'.ownBlock = some r ∧ w.heap.size < r) :
    Made (w1.setCell ⟨g, 0, none⟩ v') B g v' (pb ++ [w.heap.size]) := by
  have hg : g < w.heap.size := blk_lt h.head
  have hpb : ∀ b, b ∈ pb → b < w.heap.size := fun b hb => by
    obtain ⟨i, hi, e⟩ := List.mem_iff_getElem.1 hb
    have := blk_lt (h.page i hi)
    rw [List.getD_eq_getElem?_getD, List.getElem?_eq_getElem hi] at this
    simp at this; omega
  have hr : ∀ r, v.ownBlock = some r → r < w.heap.size := fun r hr => (World.ownsRow.lt h.row r hr).2
  have hv' : ∀ r, v'.ownBlock = some r → r ≠ g ∧ r ∉ pb ∧ r ≠ w.heap.size := fun r e => by
    rcases hat with e' | ⟨r', e', hlt⟩
    · rw [e'] at e
      exact ⟨(h.rowfar r e).1, (h.rowfar r e).2, by have := hr r e; omega⟩
    · rw [e'] at e
      cases e
      exact ⟨by omega, fun hb => by have := hpb _ hb; omega, by omega⟩
  have hh1 : w1.heap[g]? = some (.cells #[v] 92 (0, 0)) := hc.keep h.head fun e => (h.rowfar g e).1 rfl
  have C2 : Chg (fun b => b = g) w1 (w1.setCell ⟨g, 0, none⟩ v') := Chg.setCell w1 ⟨g, 0, none⟩ v' rfl
  refine ⟨?_, h.low, ?_, ?_, ?_, ?_, ?_⟩
  · rw [setCell_row hh1, setRow_heap w1 _ _ _ _ (0, 0) hh1]; rfl
  · rw [List.map_append, List.length_append]
    refine ⟨hrow.1, ?_⟩
    rcases hrow.2 with h2 | ⟨r, cap, cur, e, hb, hh, rest⟩
    · exact .inl h2
    · exact .inr ⟨r, cap, cur, e, hb, C2.keep hh fun e' => (hv' r (by rw [e]; rfl)).1 e', rest⟩
  · intro i hi
    rw [List.length_append, List.length_singleton] at hi
    rw [getD_snoc]
    by_cases e : i < pb.length
    · rw [if_pos e]
      have hm := mem_getD pb i e
      exact C2.keep (hc.keep (h.page i e) fun e' => (h.rowfar _ e').2 hm) fun e' => by have := h.far _ hm; omega
    · rw [if_neg e, if_pos (by omega)]
      exact C2.keep hp (by omega)
  · intro i j hi hj
    rw [List.length_append, List.length_singleton] at hi hj
    rw [getD_snoc, getD_snoc]
    by_cases ei : i < pb.length <;> by_cases ej : j < pb.length
    · rw [if_pos ei, if_pos ej]; exact h.inj i j ei ej
    · rw [if_pos ei, if_neg ej, if_pos (by omega)]
      intro e; have := hpb _ (mem_getD pb i ei); omega
    · rw [if_neg ei, if_pos ej, if_pos (by omega)]
      intro e; have := hpb _ (mem_getD pb j ej); omega
    · intro _; omega
  · intro b hb
    rcases List.mem_append.1 hb with hb | hb
    · exact h.far b hb
    · simp at hb; omega
  · intro r e
    obtain ⟨h1, h2, h3⟩ := hv' r e
    exact ⟨h1, fun hb => by
      rcases List.mem_append.1 hb with hb | hb
      · exact h2 hb
      · simp at hb; exact h3 hb⟩
theorem owns_form {w : World} {B : Nat} {e : TypeId} {z : Nat} {v : Value} {n : Nat} {xs : List Value} (h : w.ownsRow B e z v n xs) : ∃ A c, v = .slice A n c := by
  rcases h.2 with ⟨rfl, rfl⟩ | ⟨g, cap, cur, rfl, _⟩
  · exact ⟨none, 0, rfl⟩
  · exact ⟨_, _, rfl⟩
theorem fresh2 (w : World) (o : Obj) (x : Value) (t : TypeId) : ∀ j u, [x][j]? = some u → ((w.alloc o).alloc (.cells #[x] t)).cell? ((⟨w.heap.size + 1, 0, none⟩ : Addr).add j) = some u := by
  intro j u hj
  have h0 : j = 0 := by
    rcases Nat.eq_zero_or_pos j with h | h
    · exact h
    · rw [List.getElem?_eq_none (by simp; omega)] at hj; cases hj
  subst h0
  have e : w.heap.size + 1 = (w.alloc o).heap.size := by simp
  rw [add_plain, Nat.add_zero, e, blk_cell (heap_alloc_at (w.alloc o) _)]
  exact hj
theorem Made.step2 {w w1 : World} {B g : Nat} {v v' : Value} {pb : List Nat} {x : Value} {t : TypeId} (h : Made w B g v pb)
    (hg : ((w.alloc (.cells (pageCells (-1) Z1024).toArray 96)).alloc (.cells #[x] t)).grownBy w1 v.ownBlock)
    (hrow : w1.ownsRow B 93 1 v' (pb.length + 1) (pb.map ptr ++ [ptr w.heap.size]))
    (hat : v'.ownBlock = v.ownBlock ∨ v'.ownBlock = some ((w.alloc (.cells (pageCells (-1) Z1024).toArray 96)).alloc (.cells #[x] t)).heap.size) :
    Made (w1.setCell ⟨g, 0, none⟩ v') B g v' (pb ++ [w.heap.size]) ∧ w1.cell? ⟨g, 0, none⟩ = some v ∧ w1.frozen? ⟨g, 0, none⟩ = false ∧ Chg (fun b => B ≤ b) w (w1.setCell ⟨g, 0, none⟩ v') := by
  have hgl := h.low
  have hc : Chg (fun b => v.ownBlock = some b) w w1 := ((Chg.alloc _ w _).trans (Chg.alloc _ _ _)).trans ⟨hg.os, hg.tape, hg.output, hg.size, fun b hb hs => hg.block b hb fun e => hs e.symm⟩
  have hh : w1.heap[g]? = some (.cells #[v] 92 (0, 0)) := hc.keep h.head fun e => (h.rowfar g e).1 rfl
  have hr : ∀ r, v.ownBlock = some r → B ≤ r ∧ r < w.heap.size := fun r hr => World.ownsRow.lt h.row r hr
  refine ⟨h.step hc ?_ hrow ?_, by rw [blk_cell hh]; rfl, blk_frozen hh 0, (hc.mono fun i _ hi => (hr i hi).1).trans (Chg.setCell w1 _ _ hgl)⟩
  · have z : ((w.alloc (.cells (pageCells (-1) Z1024).toArray 96)).alloc (.cells #[x] t)).heap[w.heap.size]? = some (.cells (pageCells (-1) Z1024).toArray 96 (0, 0)) := by
      rw [Below.heap_alloc _ _ _ (by simp)]
      exact heap_alloc_at w _
    rw [← z]
    refine hg.block _ (by simp; omega) fun e => ?_
    have := hr _ e.symm
    omega
  · rcases hat with e | e
    · exact .inl e
    · exact .inr ⟨_, e, by simp; omega⟩
theorem new_pg (n i : Nat) (h : i < n) : pg (new n).B i = Z1024 := by
  apply List.ext_getElem?
  intro j
  show ((List.drop (1024 * i) (List.replicate (1024 * n) (0 : Int))).take 1024)[j]? = (List.replicate 1024 (0 : Int))[j]?
  rw [List.drop_replicate, List.take_replicate]
  congr 2
  omega
theorem new_ok (n : Nat) (h1 : 1 ≤ n) (h2 : n ≤ 32) : Ok (new n) where
  low := by simp [new]; omega
  high := by simp [new]; omega
  len := by simp [new]
  bytes x hx := by rw [List.eq_of_mem_replicate hx]; decide
  cls i hi := by
    have hi' : i < n := by simpa [new] using hi
    show -1 ≤ (List.replicate n (-1 : Int)).getD i 0 ∧ (List.replicate n (-1 : Int)).getD i 0 < 8
    rw [List.getD_eq_getElem?_getD, List.getElem?_replicate, if_pos hi']
    decide
/-- all pages made: an arena of n pages -/
theorem Made.lies {w : World} {B g : Nat} {v : Value} {pb : List Nat} (h : Made w B g v pb) (n : Nat) (hn : pb.length = n) (h1 : 1 ≤ n) (h2 : n ≤ 32) :
    ∃ a : Ar, a.g = g ∧ Lies w a (new n) ∧ B ≤ a.g ∧ B ≤ a.ps ∧ (∀ b ∈ a.pb, B ≤ b) ∧ (∀ b ∈ a.pb, b < w.heap.size) ∧ a.ps < w.heap.size := by
  subst hn
  rcases h.row.2 with ⟨_, e⟩ | ⟨r, cap, cur, e, hb, hh, hle, hm, hs, ht⟩
  · omega
  · subst e
    have hl : (new pb.length).own.length = pb.length := by simp [new]
    have hf := h.rowfar r rfl
    have hps : ∀ b, b ∈ pb → b < w.heap.size := fun b hb => by
      obtain ⟨i, hi, e⟩ := List.mem_iff_getElem.1 hb
      have := blk_lt (h.page i hi)
      rw [List.getD_eq_getElem?_getD, List.getElem?_eq_getElem hi] at this
      simp at this; omega
    refine ⟨⟨g, r, cap, pb⟩, rfl, ⟨new_ok _ h1 h2, ?_, by rw [hl]; exact ⟨hle, hm⟩, by rw [hl], ?_, ?_, by rw [hl]; exact h.inj, ?_, fun e => hf.1 e.symm⟩, h.low, hb, fun b hb => Nat.le_of_lt (Nat.lt_of_le_of_lt h.low (h.far b hb)), hps, blk_lt hh⟩
    · rw [hl]; exact h.head
    · rw [hl]
      intro i hi
      show w.cell? ⟨r, i, none⟩ = _
      have hcur : cur.toList[i]? = some (ptr (pb.getD i 0)) := by
        have h3 : (cur.toList.take (pb.length * 1))[i]? = (pb.map ptr)[i]? := by rw [ht]
        rw [List.getElem?_take, if_pos (by omega)] at h3
        rw [h3, List.getElem?_map, List.getElem?_eq_getElem hi, List.getD_eq_getElem?_getD, List.getElem?_eq_getElem hi]; rfl
      rw [blk_cell hh, ← Array.getElem?_toList, hcur]; rfl
    · rw [hl]
      intro i hi
      have e1 : (new pb.length).own.getD i 0 = -1 := by
        show (List.replicate pb.length (-1 : Int)).getD i 0 = -1
        rw [List.getD_eq_getElem?_getD, List.getElem?_replicate, if_pos hi]; rfl
      rw [e1, new_pg _ _ hi]
      exact h.page i hi
    · rw [hl]
      intro i hi
      have hm := mem_getD pb i hi
      refine ⟨fun e => ?_, fun e => hf.2 ?_⟩
      · have e' : pb.getD i 0 = g := e
        have := h.far _ hm
        omega
      · have e' : pb.getD i 0 = r := e
        rw [← e']; exact hm
/-- an arena of the call's own, or the error -/
def NewA (w : World) (n : Int) (e : Ending) (w' : World) : Prop :=
  (n < 1 ∨ 32 < n) ∧ e = .returned (.tuple #[.pointer none, .int .i64 1]) ∧ w = w' ∨
  1 ≤ n ∧ n ≤ 32 ∧ ∃ a : Ar, e = .returned (.tuple #[.pointer (some ⟨a.g, 0, none⟩), .int .i64 0]) ∧ Lies w' a (new n.toNat) ∧ Chg (fun _ => False) w w' ∧ w.heap.size ≤ a.g ∧ w.heap.size ≤ a.ps ∧ (∀ b ∈ a.pb, w.heap.size ≤ b) ∧ (∀ b ∈ a.pb, b < w'.heap.size) ∧ a.ps < w'.heap.size
theorem ptr_info : (Try.prog.info? 93).map (fun i => (i.zero, i.size, i.bytes)) = some (some (.pointer none), 1, 8) := by kernel_rfl
set_option maxRecDepth 100000 in
theorem new_calls (n : Int) (w : World) : Calls Try.prog 41 #[(.int .i64 n)] w (NewA w n) := by
  by_cases h : n < 1 ∨ 32 < n
  · have R : Hid (∀ e w', e = Ending.returned (.tuple #[.pointer none, .int .i64 1]) → w = w' → NewA w n e w') := fun e w' he hw => .inl ⟨h, he, hw⟩
    rcases h with h | h
    · go_enter Try.func41, Try.ntmps41
      go_wp2
      go_ret2
      exact R.out _ _ rfl rfl
    · have h' : ¬ n < 1 := by omega
      go_enter Try.func41, Try.ntmps41
      go_wp2
      go_ret2
      exact R.out _ _ rfl rfl
  · have h1 : ¬ n < 1 := by omega
    have h2 : ¬ 32 < n := by omega
    obtain ⟨m, rfl⟩ := Int.eq_ofNat_of_zero_le (show 0 ≤ n by omega)
    have R : Hid (∀ e w' v pb, Made w' w.heap.size w.heap.size v pb → pb.length = m → Chg (fun b => w.heap.size ≤ b) w w' → e = Ending.returned (.tuple #[.pointer (some ⟨w.heap.size, 0, none⟩), .int .i64 0]) → NewA w m e w') := fun e w' v pb hM hl hc he => by
      refine .inr ⟨by omega, by omega, ?_⟩
      obtain ⟨a, e1, h3, h4, h5, h6, h7, h8⟩ := hM.lies m hl (by omega) (by omega)
      exact ⟨a, by rw [he, e1], by rw [Int.toNat_natCast]; exact h3, hc.mono fun i h1 h2 => by omega, h4, h5, h6, h7, h8⟩
    have PB := Lib.hid (page_built (-1))
    have PO := Lib.hid (page_one (-1))
    have M0 := Lib.hid (Made.start w)
    have C0 : Hid (Chg (fun b => w.heap.size ≤ b) w (w.alloc (.cells #[.slice none 0 0] 92))) := Chg.alloc _ _ _
    clear h
    go_enter Try.func41, Try.ntmps41
    go_wp2
    generalize w.alloc (.cells #[.slice none 0 0] 92) = w0 at M0 C0 ⊢
    go_loopw [14] (fun i wr => ∃ (k : Nat) (v : Value) (pb : List Nat), k ≤ m ∧ i = .int .i64 k ∧ Hid (pb.length = k) ∧ Hid (Made wr w.heap.size w.heap.size v pb) ∧ Hid (Chg (fun b => w.heap.size ≤ b) w wr)) (fun i _ => m - (intOf i).toNat)
    case atStart => exact ⟨0, _, [], Nat.zero_le _, rfl, rfl, M0.out, C0.out⟩
    case round =>
      obtain ⟨k, v, pb, hk, rfl, L, M, C⟩ := hrel
      by_cases hlt : k < m
      · have c1 : wr.cell? ⟨w.heap.size, 0, none⟩ = some v := by rw [blk_cell M.out.head]; rfl
        obtain ⟨i0, hi, hz0, hz1, hz2⟩ := info_parts ptr_info
        have IH := Lib.hid hi
        have Z0 := Lib.hid hz0
        have Z1 := Lib.hid hz1
        have Z2 := Lib.hid hz2
        clear hi hz0 hz1 hz2
        have OW : Hid (((wr.alloc (.cells (pageCells (-1) Z1024).toArray 96)).alloc (.cells #[.pointer (some ⟨wr.heap.size, 0, none⟩)] 93)).ownsRow w.heap.size 93 1 v k (pb.map ptr)) := by
          have := M.out.row
          rw [L.out] at this
          exact (this.alloc _).alloc _
        go_wp2_with (first | (refine wpList_build_one rfl 96 0 _ rfl _ rfl _ PB.out ?_) | (at_builtin; refine wpList_append_own_at _ rfl _ _ 90 rfl w.heap.size 93 i0 (.pointer none) 1 8 Try.underlying90 IH.out Z0.out Z1.out Z2.out rfl (by decide) v k (pb.map ptr) rfl OW.out ⟨wr.heap.size + 1, 0, none⟩ 1 1 [ptr wr.heap.size] rfl rfl ?c1 ?c2 ?c3 ?c4 ?c5 ?_; (case c1 => exact fresh2 _ _ _ _); (case c2 => simp [ptr, Value.oneCell']); (case c3 => unfold maxLen; omega); (case c4 => omega); (case c5 => have := C.out.size; simp; omega); intro v' w1 hown hgrow _ hat; obtain ⟨A', c', rfl⟩ := owns_form hown; have T1 := M.out.step2 hgrow (by rw [L.out]; exact hown) hat; have c2 := T1.2.1; have c3 := T1.2.2.1; have M1 := Lib.hid T1.1; have C1 : Hid (Chg (fun b => w.heap.size ≤ b) w (w1.setCell ⟨w.heap.size, 0, none⟩ (.slice A' (k + 1) c'))) := C.out.trans T1.2.2.2; clear hown hgrow hat T1))
        go_roundw
        case rel => exact ⟨k + 1, _, pb ++ [wr.heap.size], hlt, by go_num, by show _ = _; rw [List.length_append, L.out]; rfl, M1.out, C1.out⟩
        case measure => simp [intOf]; omega
      · obtain rfl : k = m := by omega
        go_wp2
        go_ret2
        exact R.out _ _ _ _ M.out L.out C.out rfl

end Go.Proofs.Ytmffdlebahdihaa.Arena

/- The reference's arena in memory, and what its functions do: within, width, Read, Number, Place, Write, SetNumber, SetPlace. -/
namespace Go.Proofs.Ytmffdlebahdihaa.Mem
open Go Go.RowKit
set_option linter.unusedVariables false
set_option maxRecDepth 100000
/-- a cell of a row of the call's own is written -/
theorem Own.setc {w : World} {base g n c : Nat} {e : TypeId} {k : IntKind} {l : List Int} (h : Own w base e k (.slice (some ⟨g, 0, none⟩) n c) l) (i : Nat) (hi : i < l.length) (v : Int) :
    Own (w.setCell ⟨g, i, none⟩ (.int k v)) base e k (.slice (some ⟨g, 0, none⟩) n c) (l.set i v) := by
  obtain ⟨g', cs, e1, hg, hh, rfl, hl, hc, hm, hcell⟩ := h.blk (by omega)
  cases e1
  have e2 : l.length = (l.set i v).length := by rw [List.length_set]
  rw [e2, setCell_row hh]
  refine Own.of_blk (cs := cs.set i (.int k v)) hg ?_ (by rw [List.length_set, List.length_set]; exact hl) (by rw [List.length_set]; exact hc) hm fun j hj => ?_
  · rw [setRow_heap w _ _ _ _ (0, 0) hh]; simp
  · rw [List.length_set] at hj
    rw [List.getElem?_set, List.getD_eq_getElem?_getD, List.getElem?_set]
    by_cases e : i = j
    · subst e; rw [if_pos rfl, if_pos rfl, if_pos (by omega), if_pos hj]; rfl
    · rw [if_neg e, if_neg e, hcell j hj, List.getD_eq_getElem?_getD]
theorem Own.cellAt {w : World} {base g n c : Nat} {e : TypeId} {k : IntKind} {l : List Int} (h : Own w base e k (.slice (some ⟨g, 0, none⟩) n c) l) (i : Nat) (hi : i < l.length) : w.cell? ⟨g, i, none⟩ = some (.int k (l.getD i 0)) ∧ w.frozen? ⟨g, i, none⟩ = false := by
  obtain ⟨g', cs, e1, hg, hh, rfl, hl, hc, hm, hcell⟩ := h.blk (by omega)
  cases e1
  exact ⟨by rw [blk_cell hh, List.getElem?_toArray]; exact hcell i hi, blk_frozen hh i⟩
theorem splice_set (L X : List Int) (O j : Nat) (h : j < X.length) (hf : O + X.length ≤ L.length) : (splice L O (X.take j)).set (O + j) (X.getD j 0) = splice L O (X.take (j + 1)) := by
  have z1 : (X.take j).length = j := by rw [List.length_take]; omega
  have z2 : (X.take (j + 1)).length = j + 1 := by rw [List.length_take]; omega
  apply List.ext_getElem?
  intro i
  rw [List.getElem?_set, length_splice _ _ _ (by omega), splice_get _ _ _ (by omega), splice_get _ _ _ (by omega), z1, z2]
  by_cases e : O + j = i
  · subst e
    rw [if_pos rfl, if_pos (by omega), if_pos (by omega), List.getElem?_take, if_pos (by omega), List.getD_eq_getElem?_getD, Nat.add_sub_cancel_left, List.getElem?_eq_getElem h]; rfl
  · rw [if_neg e]
    by_cases h1 : O ≤ i ∧ i < O + j
    · rw [if_pos h1, if_pos (by omega), List.getElem?_take, List.getElem?_take, if_pos (by omega), if_pos (by omega)]
    · rw [if_neg h1, if_neg (by omega)]
/-- s[l:h] of a slice whose elements are one cell each -/
theorem slice_lh {P : Program} {t : TypeId} (ht : P.underlying t = some (.slice (P.elem t))) (hz : ∀ W, (Go.sizeOf (P.elem t)).run P W = .ok 1 W) (a : Option Addr) (len cap l n : Nat) (h2 : l + n ≤ cap) (w : World) :
    (Instr.sliceAt t (.slice a len cap) (some (.int .i64 l)) (some (.int .i64 ((l : Int) + n))) none).run P w = .ok (.slice (if cap = l then a else a.map (·.add l)) n (cap - l)) w := by
  rw [run_sliceAt_slice w t _ _ _ _ ht, run_slice_lh w t a len cap ht .i64 .i64 l ((l : Int) + n) (by omega) (by omega) (by omega), hz]
  have e1 : ((l : Int)).toNat = l := by omega
  have e2 : ((l : Int) + n).toNat = l + n := by omega
  rw [e1, e2]
  show Result.ok (sliced a l (l + n) cap 1) w = _
  unfold sliced
  rw [Nat.mul_one, Nat.add_sub_cancel_left]
end Go.Proofs.Ytmffdlebahdihaa.Mem
namespace Go.Proofs.Ytmffdlebahdihaa.Arena
open Go Go.RowKit Go.Proofs.Ytmffdlebahdihaa.Mem Go.Proofs.Ytmffdlebahdihaa.CodecPure Go.Proofs.Ytmffdlebahdihaa.ArenaPure Go.Proofs.Ytmffdlebahdihaa.Codec
set_option linter.unusedVariables false
set_option maxRecDepth 100000
variable {w w' : World} {s : St}
/-- the reference's arena: its header g, the row o of owners, the row b of all bytes -/
structure Ra where
  g : Nat
  o : Nat
  co : Nat
  b : Nat
  cb : Nat
structure RLies (w : World) (r : Ra) (s : St) : Prop where
  ok : Ok s
  head : w.heap[r.g]? = some (.cells #[.slice (some ⟨r.o, 0, none⟩) s.own.length r.co, .slice (some ⟨r.b, 0, none⟩) s.B.length r.cb] 128 (0, 0))
  own : Own w 0 3 .i64 (.slice (some ⟨r.o, 0, none⟩) s.own.length r.co) s.own
  byt : Own w 0 5 .u8 (.slice (some ⟨r.b, 0, none⟩) s.B.length r.cb) s.B
  ne1 : r.g ≠ r.o
  ne2 : r.g ≠ r.b
  ne3 : r.o ≠ r.b
variable {r : Ra}
def Ra.has (r : Ra) (x : Nat) : Prop := x = r.o ∨ x = r.b
theorem RLies.chg {S : Nat → Prop} (h : RLies w r s) (hc : Chg S w w') (hg : ¬ S r.g) (ho : ¬ S r.o) (hb : ¬ S r.b) : RLies w' r s where
  ok := h.ok
  head := hc.keep h.head hg
  own := h.own.chg hc fun g e => by simp [Value.ownBlock] at e; subst e; exact ho
  byt := h.byt.chg hc fun g e => by simp [Value.ownBlock] at e; subst e; exact hb
  ne1 := h.ne1
  ne2 := h.ne2
  ne3 := h.ne3
theorem RLies.hdO (h : RLies w r s) : w.cell? ⟨r.g, 0, none⟩ = some (.slice (some ⟨r.o, 0, none⟩) s.own.length r.co) := by rw [blk_cell h.head]; rfl
theorem RLies.hdB (h : RLies w r s) : w.cell? ⟨r.g, 1, none⟩ = some (.slice (some ⟨r.b, 0, none⟩) s.B.length r.cb) := by rw [blk_cell h.head]; rfl
theorem own_room {w : World} {base g n c : Nat} {e : TypeId} {k : IntKind} {l : List Int} (h : Own w base e k (.slice (some ⟨g, 0, none⟩) n c) l) : n ≤ c ∧ c ≤ 9223372036854775807 := by
  rcases h.2 with ⟨e1, _⟩ | ⟨g', cap, cur, e1, _, _, h1, h2, _⟩
  · cases e1
  · injection e1 with _ e2 e3
    subst e3
    exact ⟨by omega, h2⟩
theorem RLies.setOwn (h : RLies w r s) (i : Nat) (hi : i < s.own.length) (v : Int) (hv : -1 ≤ v ∧ v < 8) : RLies (w.setCell ⟨r.o, i, none⟩ (.int .i64 v)) r ⟨s.own.set i v, s.B⟩ where
  ok := ok_set h.ok i v hi hv _ rfl h.ok.bytes
  head := by
    show (w.setCell ⟨r.o, i, none⟩ (.int .i64 v)).heap[r.g]? = some (.cells #[.slice _ (s.own.set i v).length _, _] _ _)
    rw [List.length_set]
    exact (Chg.setCell (S := fun x => x = r.o) w ⟨r.o, i, none⟩ _ rfl).keep h.head h.ne1
  own := by
    show Own _ _ _ _ (.slice _ (s.own.set i v).length _) (s.own.set i v)
    rw [List.length_set]
    exact h.own.setc i hi v
  byt := h.byt.chg (Chg.setCell (S := fun x => x = r.o) w ⟨r.o, i, none⟩ _ rfl) fun g e => by simp [Value.ownBlock] at e; subst e; exact fun e => h.ne3 e.symm
  ne1 := h.ne1
  ne2 := h.ne2
  ne3 := h.ne3
theorem RLies.setByte (h : RLies w r s) (i : Nat) (hi : i < s.B.length) (v : Int) (hv : 0 ≤ v ∧ v ≤ 255) : RLies (w.setCell ⟨r.b, i, none⟩ (.int .u8 v)) r ⟨s.own, s.B.set i v⟩ where
  ok := ⟨h.ok.low, h.ok.high, by show (s.B.set i v).length = _; rw [List.length_set]; exact h.ok.len, fun x hx => by
    rcases List.mem_or_eq_of_mem_set hx with hx | rfl
    · exact h.ok.bytes x hx
    · exact hv, h.ok.cls⟩
  head := by
    show (w.setCell ⟨r.b, i, none⟩ (.int .u8 v)).heap[r.g]? = some (.cells #[_, .slice _ (s.B.set i v).length _] _ _)
    rw [List.length_set]
    exact (Chg.setCell (S := fun x => x = r.b) w ⟨r.b, i, none⟩ _ rfl).keep h.head h.ne2
  own := h.own.chg (Chg.setCell (S := fun x => x = r.b) w ⟨r.b, i, none⟩ _ rfl) fun g e => by simp [Value.ownBlock] at e; subst e; exact h.ne3
  byt := by
    show Own _ _ _ _ (.slice _ (s.B.set i v).length _) (s.B.set i v)
    rw [List.length_set]
    exact h.byt.setc i hi v
  ne1 := h.ne1
  ne2 := h.ne2
  ne3 := h.ne3

/-! ### within, width -/
theorem retb {b c : Bool} (h : b = c) : Ending.returned (.bool b) = .returned (.bool c) := by rw [h]
theorem within_yes (hl : RLies w r s) (at_ n : Int) (h : within s at_ n) : Calls Try.prog 111 #[(.pointer (some ⟨r.g, 0, none⟩)), (.int .i64 at_), (.int .i64 n)] w fun e w' => e = .returned (.bool true) ∧ w = w' := by
  have k1 := hl.hdO
  have k2 := hl.hdB
  have hp := page_of h
  have k3 := (hl.own.cellAt _ hp).1
  have r1 := hl.ok.high
  have r2 := hl.ok.len
  obtain ⟨h1, h2, h3, h4, h5⟩ := h
  obtain ⟨A, rfl⟩ := Int.eq_ofNat_of_zero_le h2
  obtain ⟨p, ep⟩ : ∃ p, A / 1024 = p := ⟨_, rfl⟩
  obtain ⟨o, eo⟩ : ∃ o, A % 1024 = o := ⟨_, rfl⟩
  have e1 : ((A : Int) / 1024).toNat = p := by omega
  have z1 : (A : Int).tdiv 1024 = p := by rw [Int.tdiv_eq_ediv_of_nonneg (by omega)]; omega
  have z2 : (A : Int).tmod 1024 = o := by rw [Int.tmod_eq_emod_of_nonneg (by omega)]; omega
  have y1 : (A : Int) / 1024 = p := by omega
  have y2 : (A : Int) % 1024 = o := by omega
  have q3 : o < 1024 := by omega
  rw [e1] at k3 h4 hp
  rw [y2] at h5
  have a0 : ((A : Int)) ≤ 32768 := by omega
  have t1 : (A : Int) < s.B.length := by omega
  generalize s.own.getD p 0 = c at k3 h4
  generalize s.own.length = N at k1 hp r1
  generalize s.B.length = M at k2 t1
  clear hl ep eo e1 h3 r2
  go_enter Try.func111, Try.ntmps111
  go_wp2
  go_ret
  exact ⟨rfl, rfl⟩
theorem within_no (hl : RLies w r s) (at_ n : Int) (hx : -9223372036854775808 ≤ at_ ∧ at_ ≤ 9223372036854775807) (h : ¬ within s at_ n) : Calls Try.prog 111 #[(.pointer (some ⟨r.g, 0, none⟩)), (.int .i64 at_), (.int .i64 n)] w fun e w' => e = .returned (.bool false) ∧ w = w' := by
  obtain ⟨hx0, hx1⟩ := hx
  by_cases h1 : n < 0
  · clear h hl
    go_enter Try.func111, Try.ntmps111
    go_wp2
    go_ret
    exact ⟨rfl, rfl⟩
  by_cases h2 : at_ < 0
  · clear h hl
    go_enter Try.func111, Try.ntmps111
    go_wp2
    go_ret
    exact ⟨rfl, rfl⟩
  have k1 := hl.hdO
  have k2 := hl.hdB
  have r1 := hl.ok.high
  have r2 := hl.ok.len
  by_cases h3 : (s.B.length : Int) ≤ at_
  · clear h hl
    go_enter Try.func111, Try.ntmps111
    go_wp2
    go_ret
    exact ⟨rfl, rfl⟩
  obtain ⟨A, rfl⟩ := Int.eq_ofNat_of_zero_le (show 0 ≤ at_ by omega)
  obtain ⟨p, ep⟩ : ∃ p, A / 1024 = p := ⟨_, rfl⟩
  obtain ⟨o, eo⟩ : ∃ o, A % 1024 = o := ⟨_, rfl⟩
  have e1 : ((A : Int) / 1024).toNat = p := by omega
  have z1 : (A : Int).tdiv 1024 = p := by rw [Int.tdiv_eq_ediv_of_nonneg (by omega)]; omega
  have z2 : (A : Int).tmod 1024 = o := by rw [Int.tmod_eq_emod_of_nonneg (by omega)]; omega
  have y1 : (A : Int) / 1024 = p := by omega
  have y2 : (A : Int) % 1024 = o := by omega
  have q3 : o < 1024 := by omega
  have hp : p < s.own.length := by omega
  have k3 := (hl.own.cellAt p hp).1
  have a0 : ((A : Int)) ≤ 32768 := by omega
  have t1 : (A : Int) < s.B.length := by omega
  have hh : s.own.getD p 0 < 0 ∨ ¬ s.own.getD p 0 < 0 ∧ (1024 : Int) - o < n := by
    by_cases g1 : s.own.getD p 0 < 0
    · exact .inl g1
    · refine .inr ⟨g1, ?_⟩
      by_cases g2 : (1024 : Int) - o < n
      · exact g2
      · refine absurd ⟨by omega, by omega, by omega, ?_, by omega⟩ h
        rw [e1]; omega
  generalize s.own.getD p 0 = c at k3 hh
  generalize s.own.length = N at k1 hp r1 r2
  generalize s.B.length = M at k2 t1 h3 r2
  clear h hl ep eo e1 r2 h3
  rcases hh with h4 | ⟨h4, h5⟩
  · go_enter Try.func111, Try.ntmps111
    go_wp2
    go_ret
    exact ⟨rfl, rfl⟩
  · have h4 : 0 ≤ c := by omega
    go_enter Try.func111, Try.ntmps111
    go_wp2
    go_ret
    exact ⟨retb (by simpa using h5), rfl⟩
theorem width_yes (n : Int) (w : World) (h : Wd n) : Calls Try.prog 115 #[(.int .i64 n)] w fun e w' => e = .returned (.bool true) ∧ w = w' := by
  rcases h with rfl | rfl | rfl | rfl
  all_goals
    go_enter Try.func115, Try.ntmps115
    go_wp2
    go_ret
    exact ⟨rfl, rfl⟩
theorem width_no (n : Int) (w : World) (h : ¬ Wd n) : Calls Try.prog 115 #[(.int .i64 n)] w fun e w' => e = .returned (.bool false) ∧ w = w' := by
  have e1 : ¬ n = 1 := fun e => h (.inl e)
  have e2 : ¬ n = 2 := fun e => h (.inr (.inl e))
  have e4 : ¬ n = 4 := fun e => h (.inr (.inr (.inl e)))
  have e8 : ¬ n = 8 := fun e => h (.inr (.inr (.inr e)))
  clear h
  go_enter Try.func115, Try.ntmps115
  go_wp2
  go_ret
  exact ⟨retb (by simp; omega), rfl⟩

/-! ### Read, Number, Place -/
theorem RLies.sl (h : RLies w r s) : Sl w .u8 (some ⟨r.b, 0, none⟩) s.B := h.byt.sl
theorem RLies.got_sl (h : RLies w r s) (at_ n : Int) (hi : within s at_ n) : Sl w .u8 (some ⟨r.b, at_.toNat, none⟩) (got s at_ n) := by
  intro j hj
  obtain ⟨ad, e, c⟩ := h.sl (at_.toNat + j) (by have := in_row h.ok hi; rw [got_length h.ok hi] at hj; omega)
  cases e
  refine ⟨_, rfl, ?_⟩
  rw [add_plain, Nat.zero_add] at c
  rw [add_plain, c]
  congr 2
  rw [got_length h.ok hi] at hj
  unfold got
  rw [List.getD_eq_getElem?_getD, List.getD_eq_getElem?_getD, List.getElem?_take, if_pos hj, List.getElem?_drop]
theorem elem_byte (W : World) : (Go.sizeOf (Try.prog.elem 48)).run Try.prog W = .ok 1 W := by kernel_rfl
/-- the slice of all bytes from one place on, as an address that leads to what lies there -/
theorem RLies.cut (h : RLies w r s) (A m : Nat) (hi : within s A m) : ∃ X, (∀ W, (Instr.sliceAt 48 (.slice (some ⟨r.b, 0, none⟩) s.B.length r.cb) (some (.int .i64 A)) (some (.int .i64 ((A : Int) + m))) none).run Try.prog W = .ok (.slice (some X) m (r.cb - A)) W) ∧ Sl w .u8 (some X) (got s A m) := by
  have rm := own_room h.byt
  have M := in_row h.ok hi
  have L := got_length h.ok hi
  have S := h.got_sl A m hi
  have e1 : ((A : Int)).toNat = A := by omega
  have e2 : ((m : Int)).toNat = m := by omega
  rw [e1] at M S
  rw [e2] at M L
  refine ⟨if r.cb = A then ⟨r.b, 0, none⟩ else ⟨r.b, A, none⟩, fun W => ?_, ?_⟩
  · rw [slice_lh Try.underlying48 elem_byte _ _ _ A m (by omega)]
    by_cases e : r.cb = A
    · rw [if_pos e, if_pos e]
    · rw [if_neg e, if_neg e, Option.map_some, add_plain, Nat.zero_add]
  · by_cases e : r.cb = A
    · have : got s A m = [] := List.eq_nil_of_length_eq_zero (by omega)
      rw [this]; exact Sl.nil _ _ _
    · rw [if_neg e]; exact S
theorem refread_calls (hl : RLies w r s) (at_ n : Int) (hx : -9223372036854775808 ≤ at_ ∧ at_ ≤ 9223372036854775807) :
    Calls Try.prog 96 #[(.pointer (some ⟨r.g, 0, none⟩)), (.int .i64 at_), (.int .i64 n)] w (Rd w (readA s at_ n).1 (readA s at_ n).2) := by
  unfold readA
  by_cases h : within s at_ n
  · rw [if_pos h]
    have P := Lib.hid (within_yes hl at_ n h)
    have L := got_length hl.ok h
    have k2 := hl.hdB
    have lt : r.g < w.heap.size := blk_lt hl.head
    have M := in_row hl.ok h
    have r1 := hl.ok.high
    have r2 := hl.ok.len
    obtain ⟨A, rfl⟩ := Int.eq_ofNat_of_zero_le h.2.1
    obtain ⟨m, rfl⟩ := Int.eq_ofNat_of_zero_le h.1
    obtain ⟨X, sl, S⟩ := hl.cut A m h
    have S := Lib.hid S
    have e1 : ((A : Int)).toNat = A := by omega
    have e2 : ((m : Int)).toNat = m := by omega
    rw [e1, e2] at M
    rw [e2] at L
    have L := Lib.hid L
    generalize got s A m = l at S L ⊢
    have R : Hid (∀ A c e w', e = Ending.returned (.tuple #[.slice A l.length c, .int .i64 0]) → Own w' w.heap.size 5 .u8 (.slice A l.length c) l → Chg (fun b => w.heap.size ≤ b) w w' → Rd w l 0 e w') := fun A c e w' he ho hc => ⟨A, c, he, ho, hc.mono fun i h1 h2 => by omega⟩
    have m6 : A + m ≤ 32768 := by omega
    generalize s.B.length = N at k2 sl
    clear h hl hx r1 r2 M e1 e2
    go_enter Try.func96, Try.ntmps96
    go_wp2_with (first | (go_at_call 111; refine (P.out).mono ?_; rintro e w' ⟨rfl, rfl⟩) | (at_builtin; refine wpList_app rfl _ _ 48 rfl w.heap.size 5 .u8 1 Try.underlying48 infoByte _ [] rfl (Own.lit w 5 .u8 [] (Nat.zero_le _)) (some X) m (r.cb - A) l rfl L.out (S.out.later (Chg.alloc _ w _) (Nat.le_refl _)) (fun e => by cases e) ?h63 ?hby ?hba ?_; (case h63 => unfold maxLen; simp; omega); (case hby => simp; omega); (case hba => simp); intro A' c' n' w3 hn' hown hchg; obtain rfl : n' = l.length := (by rw [L.out]; simpa using hn'); have O3 : Hid (Own w3 w.heap.size 5 .u8 (.slice A' l.length c') l) := hown; have C3 : Hid (Chg (fun b => w.heap.size ≤ b) w w3) := (Chg.alloc _ w _).trans hchg; clear hn' hown hchg))
    go_ret2
    exact R.out _ _ _ _ rfl O3.out C3.out
  · rw [if_neg h]
    have P := Lib.hid (within_no hl at_ n hx h)
    have R : Hid (∀ e w', e = Ending.returned (.tuple #[.slice none 0 0, .int .i64 1]) → w = w' → Rd w [] 1 e w') := fun e w' he hw => by
      subst hw; exact ⟨none, 0, he, Own.nil _ _ _ _, Chg.refl _ _⟩
    clear h hl hx
    go_enter Try.func96, Try.ntmps96
    go_wp2_with (go_at_call 111; refine (P.out).mono ?_; rintro e w' ⟨rfl, rfl⟩)
    go_ret2
    exact R.out _ _ rfl rfl

theorem number_ref (hs : Ok s) (at_ n : Int) (h : within s at_ n) (hw : Wd n) : getC s.B at_ n = getC (got s at_ n) 0 n := by
  have M := in_row hs h
  have L := got_length hs h
  have h0 := h.1
  have h2 := h.2.1
  unfold getC
  rw [if_pos ⟨hw, by omega, by omega⟩, if_pos ⟨hw, by omega, by omega⟩]
  have e : (got s at_ n).take n.toNat = got s at_ n := List.take_of_length_le (by omega)
  show (le (got s at_ n), (0 : Int)) = (le ((got s at_ n).take n.toNat), 0)
  rw [e]
theorem number_no (n : Int) (l : List Int) (hw : ¬ Wd n) : getC l 0 n = (0, 1) := by
  unfold getC
  rw [if_neg fun h => hw h.1]
theorem put_noW (n v : Int) (l : List Int) (hw : ¬ Wd n) : putC l 0 n v = (l, 1) := by
  unfold putC
  rw [if_neg fun h => hw h.1]
theorem place_ref (hs : Ok s) (at_ : Int) (h : within s at_ 4) : getPlaceC s.B at_ = getPlaceC (got s at_ 4) 0 := by
  have M := in_row hs h
  have L := got_length hs h
  have h2 := h.2.1
  have e4 : (4 : Int).toNat = 4 := rfl
  unfold getPlaceC
  rw [if_pos (show there s.B.length at_ 4 from ⟨.inr (.inr (.inl rfl)), by omega, by omega⟩), if_pos (show there (got s at_ 4).length 0 4 from ⟨.inr (.inr (.inl rfl)), by omega, by omega⟩)]
  have e : ((got s at_ 4).drop (0 : Int).toNat).take 4 = (s.B.drop at_.toNat).take 4 := by
    show (got s at_ 4).take 4 = _
    rw [List.take_of_length_le (by omega)]; rfl
  rw [e]
/-! ### Write, SetNumber, SetPlace -/
/-- one answer, an error; the reference's arena is so now; nothing else that was there has turned -/
def RNow (w : World) (r : Ra) (s' : St) (err : Int) (e : Ending) (w' : World) : Prop :=
  e = .returned (.int .i64 err) ∧ RLies w' r s' ∧ Chg r.has w w'
theorem lay_take (hs : Ok s) (at_ : Int) (l : List Int) (h : within s at_ l.length) (k : Nat) (hk : k < l.length) :
    (⟨(lay s at_ (l.take k)).own, (lay s at_ (l.take k)).B.set (at_.toNat + k) (l.getD k 0)⟩ : St) = lay s at_ (l.take (k + 1)) := by
  have M := in_row hs h
  unfold lay
  congr 1
  exact splice_set s.B l at_.toNat k hk (by omega)
theorem refwrite_ok (hl : RLies w r s) (at_ : Int) (ad : Addr) (c : Nat) (l : List Int) (hs : Sl w .u8 (some ad) l) (hb : Bytes l) (hf : ¬ r.has ad.block) (h : within s at_ l.length) (hm : l.length ≤ 1000000000) :
    Calls Try.prog 92 #[(.pointer (some ⟨r.g, 0, none⟩)), (.int .i64 at_), (.slice (some ad) l.length c)] w (RNow w r (lay s at_ l) 0) := by
  have P := Lib.hid (within_yes hl at_ l.length h)
  have H0 := Lib.hid hl
  have M := in_row hl.ok h
  have e1 : ((l.length : Int)).toNat = l.length := by omega
  rw [e1] at M
  have h2 := h.2.1
  have h3 := h.2.2.1
  have r1 := hl.ok.high
  have r2 := hl.ok.len
  have HS := Lib.hid hs
  have HF := Lib.hid hf
  have LT : Hid (∀ k, k < l.length → (⟨(lay s at_ (l.take k)).own, (lay s at_ (l.take k)).B.set (at_.toNat + k) (l.getD k 0)⟩ : St) = lay s at_ (l.take (k + 1))) := lay_take hl.ok at_ l h
  have HB := Lib.hid hb
  have T0 : Hid (lay s at_ (l.take 0) = s) := by
    show lay s at_ (l.take 0) = s
    unfold lay
    rw [List.take_zero, splice_none]
  have LB : Hid (∀ k, k ≤ l.length → (lay s at_ (l.take k)).B.length = s.B.length) := fun k hk => length_splice _ _ _ (by rw [List.length_take]; omega)
  have R : Hid (∀ e w', e = Ending.returned (.int .i64 0) → RLies w' r (lay s at_ (l.take l.length)) → Chg r.has w w' → RNow w r (lay s at_ l) 0 e w') := fun e w' he h1 hc => by
    rw [List.take_length] at h1; exact ⟨he, h1, hc⟩
  have r3 : s.B.length ≤ 32768 := by omega
  have r4 : at_.toNat + l.length ≤ s.B.length := M
  clear hs hf hl hb h e1 r1 r2 h3 M
  generalize hn : l.length = n at P hm LT R LB r4
  generalize s.B.length = N at r3 r4 LB
  have hn' := Lib.hid hn
  clear hn
  go_enter Try.func92, Try.ntmps92
  go_wp2_with (go_at_call 111; refine (P.out).mono ?_; rintro e w' ⟨rfl, rfl⟩)
  go_loopw [7] (fun i wr => ∃ k : Nat, k ≤ n ∧ i = .int .i64 k ∧ Hid (RLies wr r (lay s at_ (l.take k))) ∧ Hid (Chg r.has w wr)) (fun i _ => n - (intOf i).toNat)
  case atStart => exact ⟨0, Nat.zero_le _, rfl, by rw [T0.out]; exact H0.out, Chg.refl _ _⟩
  case round =>
    obtain ⟨k, hk, rfl, HL, HC⟩ := hrel
    by_cases hlt : k < n
    · have S2 := HS.out.chg HC.out (fun a e => by cases e; exact HF.out)
      obtain ⟨ad', e2, c2⟩ := S2 k (by rw [hn'.out]; exact hlt)
      cases e2
      have lb := LB.out k hk
      have k2 := HL.out.hdB
      rw [lb] at k2
      obtain ⟨A, rfl⟩ := Int.eq_ofNat_of_zero_le h2
      have e3 : ((A : Int)).toNat = A := by omega
      have cc := HL.out.byt.cellAt (A + k) (by rw [lb]; omega)
      have NX := Lib.hid (HL.out.setByte (A + k) (by rw [lb]; omega) (l.getD k 0) (HB.out _ (by rw [List.getD_eq_getElem?_getD, List.getElem?_eq_getElem (by rw [hn'.out]; exact hlt)]; exact List.getElem_mem _)))
      have LT2 := LT.out k hlt
      rw [e3] at LT2
      rw [LT2] at NX
      have CC : Hid (Chg r.has w (wr.setCell ⟨r.b, A + k, none⟩ (.int .u8 (l.getD k 0)))) := HC.out.trans (Chg.setCell _ _ _ (.inr rfl))
      obtain ⟨c3, c4⟩ := cc
      generalize (lay s (A : Int) (l.take k)).B.getD (A + k) 0 = old at c3
      generalize l.getD k 0 = x at c2 NX CC
      have q1 : IntKind.i64.wrap ((A : Int) + k) = (A : Int) + k := IntWalk.i64_in _ (by omega)
      have q2 : (0 : Int) ≤ (A : Int) + k := by omega
      have q3 : ((A : Int) + k).toNat = A + k := by omega
      have q4 : A + k < N := by omega
      have q5 : (A : Int) + k < N := by omega
      go_wp2_with fail
      go_still_tail 12, (by kernel_rfl)
      change wpList _ _ _ _ _ wr.drew
      clear q1 q2 q3 q5
      go_wp2
      go_roundw
      case rel => exact ⟨k + 1, hlt, by go_num, NX.out.chg (Chg.drew (fun _ => False) _) id id id, CC.out.trans (Chg.drew _ _)⟩
      case measure => simp [intOf]; omega
    · obtain rfl : k = n := by omega
      go_wp2
      go_ret
      exact R.out _ _ rfl HL.out HC.out
theorem refwrite_calls (hl : RLies w r s) (at_ : Int) (B : Option Addr) (c : Nat) (l : List Int) (hs : Sl w .u8 B l) (hb : Bytes l) (hf : l ≠ [] → ∀ ad, B = some ad → ¬ r.has ad.block) (hm : l.length ≤ 1000000000) (hx : -9223372036854775808 ≤ at_ ∧ at_ ≤ 9223372036854775807) :
    Calls Try.prog 92 #[(.pointer (some ⟨r.g, 0, none⟩)), (.int .i64 at_), .slice B l.length c] w (RNow w r (write s at_ l).1 (write s at_ l).2) := by
  unfold write
  by_cases h : within s at_ l.length
  · rw [if_pos h]
    by_cases h0 : 0 < l.length
    · obtain ⟨ad, rfl, _⟩ := hs 0 h0
      exact refwrite_ok hl at_ ad c l hs hb (hf (List.length_pos_iff.1 h0) ad rfl) h hm
    · obtain rfl : l = [] := List.eq_nil_of_length_eq_zero (by omega)
      have P := Lib.hid (within_yes hl at_ 0 h)
      have R : Hid (∀ e w', e = Ending.returned (.int .i64 0) → w = w' → RNow w r (lay s at_ []) 0 e w') := fun e w' he hw => by
        subst hw
        refine ⟨he, ?_, Chg.refl _ _⟩
        unfold lay
        rw [splice_none]; exact hl
      clear h hl hx hs hb hf h0 hm
      go_enter Try.func92, Try.ntmps92
      go_wp2_with (go_at_call 111; refine (P.out).mono ?_; rintro e w' ⟨rfl, rfl⟩)
      refine wp_loop_once ?_
      go_wp2
      go_ret
      exact R.out _ _ rfl rfl
  · rw [if_neg h]
    have P := Lib.hid (within_no hl at_ l.length hx h)
    have R : Hid (∀ e w', e = Ending.returned (.int .i64 1) → w = w' → RNow w r s 1 e w') := fun e w' he hw => by subst hw; exact ⟨he, hl, Chg.refl _ _⟩
    clear h hl hx hs hb hf
    go_enter Try.func92, Try.ntmps92
    go_wp2_with (go_at_call 111; refine (P.out).mono ?_; rintro e w' ⟨rfl, rfl⟩)
    go_ret
    exact R.out _ _ rfl rfl

end Go.Proofs.Ytmffdlebahdihaa.Arena

/- The reference's arena: SetNumber, SetPlace, Return, Free, Grant, New: what each answers, and what it writes. -/
namespace Go.Proofs.Ytmffdlebahdihaa.Arena
open Go Go.RowKit Go.Proofs.Ytmffdlebahdihaa.Mem Go.Proofs.Ytmffdlebahdihaa.CodecPure Go.Proofs.Ytmffdlebahdihaa.ArenaPure Go.Proofs.Ytmffdlebahdihaa.Codec
set_option linter.unusedVariables false
set_option maxRecDepth 100000
variable {w w' : World} {s : St} {r : Ra}
theorem RLies.o_lt (h : RLies w r s) : r.o < w.heap.size := World.block_lt_of_cell? w _ (h.own.cellAt 0 h.ok.low).1
theorem RLies.b_lt (h : RLies w r s) : r.b < w.heap.size := World.block_lt_of_cell? w _ (h.byt.cellAt 0 (by have := h.ok.len; have := h.ok.low; omega)).1
theorem RLies.later {B : Nat} (h : RLies w r s) (hc : Chg (fun b => B ≤ b) w w') (hB : w.heap.size ≤ B) : RLies w' r s := by
  have := h.o_lt
  have := h.b_lt
  have := blk_lt h.head
  exact h.chg hc (by omega) (by omega) (by omega)

/-! ### SetNumber, SetPlace -/
theorem refsetnumber_calls (hl : RLies w r s) (at_ n v : Int) (hx : -9223372036854775808 ≤ at_ ∧ at_ ≤ 9223372036854775807) (h0 : 0 ≤ v) (h1 : v < 18446744073709551616) :
    Calls Try.prog 98 #[(.pointer (some ⟨r.g, 0, none⟩)), (.int .i64 at_), (.int .i64 n), (.int .u64 v)] w (RNow w r (setNumber s at_ n v).1 (setNumber s at_ n v).2) := by
  unfold setNumber
  by_cases hw : Wd n
  · have H := Lib.hid (width_yes n w hw)
    by_cases h : within s at_ n
    · rw [if_pos h]
      have P := Lib.hid (within_yes hl at_ n h)
      have L := got_length hl.ok h
      have k2 := hl.hdB
      have lt : r.g < w.heap.size := blk_lt hl.head
      have M := in_row hl.ok h
      have r1 := hl.ok.high
      have r2 := hl.ok.len
      obtain ⟨A, rfl⟩ := Int.eq_ofNat_of_zero_le h.2.1
      obtain ⟨m, rfl⟩ := Int.eq_ofNat_of_zero_le h.1
      obtain ⟨X, sl, S⟩ := hl.cut A m h
      have e1 : ((A : Int)).toNat = A := by omega
      have e2 : ((m : Int)).toNat = m := by omega
      rw [e1, e2] at M
      rw [e2] at L
      have G := refput_callsF (some X) (r.cb - A) (got s A m) 0 m v w S (by omega) (fun e => by cases e) (by decide) h0 h1
      have hL : Hid ((putC (got s A m) 0 m v).1.length = m) := by show _ = _; rw [putC_len, L]
      have hW : Hid (write s A (putC (got s A m) 0 m v).1 = (lay s A (putC (got s A m) 0 m v).1, 0)) := by
        show write s A _ = _
        unfold write
        rw [if_pos (by rw [hL.out]; exact h)]
      have hE : Hid ((putC (got s A m) 0 m v).2 ≠ 0 → lay s A (putC (got s A m) 0 m v).1 = s) := fun e => by
        rcases putC_pair (got s A m) m v (by rw [L, e2]) with ⟨e3, _⟩ | ⟨_, e4⟩
        · rw [e3]; exact lay_got hl.ok h
        · exact absurd e4 e
      have hY := Lib.hid (bytes_putC (got s A m) 0 m v (got_bytes hl.ok A m))
      rw [L] at G
      have G := Lib.hid G
      have H0 := Lib.hid hl
      have m6 : A + m ≤ 32768 := by omega
      generalize (putC (got s A m) 0 m v).1 = Y at G hL hW hE hY ⊢
      generalize (putC (got s A m) 0 m v).2 = E at G hE ⊢
      generalize s.B.length = N at k2 sl
      clear h hl hx hw r1 r2 M e1 e2 L S h0 h1
      by_cases hz : E = 0
      · subst hz
        go_enter Try.func98, Try.ntmps98
        go_wp2_with (first | (go_at_call 115; refine (H.out).mono ?_; rintro e w' ⟨rfl, rfl⟩) | (go_at_call 111; refine (P.out).mono ?_; rintro e w' ⟨rfl, rfl⟩))
        refine G.out.mono ?_
        rintro e w1 ⟨A1, c1, n1, hn1, rfl, S1, C1, Z1, F1⟩
        have H1 := H0.out.later C1 (Nat.le_refl _)
        have b1 := H0.out.o_lt
        have b2 := H0.out.b_lt
        have W := refwrite_calls H1 A A1 c1 Y S1 hY.out (fun _ ad e => by have := F1 rfl ad e; unfold Ra.has; omega) (by have := hL.out; omega) (by omega)
        rw [hW.out] at W
        rw [← hn1] at W
        have W := Lib.hid W
        have C1 := Lib.hid C1
        clear S1 Z1 F1 H1 b1 b2 hn1
        go_wp2_with fail
        refine W.out.mono ?_
        rintro e w2 ⟨rfl, hl2, hc2⟩
        have R : Hid (∀ e w', e = Ending.returned (.int .i64 0) → w2 = w' → RNow w r (lay s A Y) 0 e w') := fun e w' he hw => by
          subst hw
          exact ⟨he, hl2, (C1.out.mono fun i h1 h2 => by omega).trans hc2⟩
        clear hl2 hc2
        go_wp2
        go_ret
        exact R.out _ _ rfl rfl
      · have hE2 := hE.out hz
        rw [hE2]
        have t : (E == 0) = false := by rw [beq_eq_false_iff_ne]; exact hz
        clear hE2 hE
        go_enter Try.func98, Try.ntmps98
        go_wp2_with (first | (go_at_call 115; refine (H.out).mono ?_; rintro e w' ⟨rfl, rfl⟩) | (go_at_call 111; refine (P.out).mono ?_; rintro e w' ⟨rfl, rfl⟩))
        refine G.out.mono ?_
        rintro e w1 ⟨A1, c1, n1, hn1, rfl, S1, C1, Z1, F1⟩
        have R : Hid (∀ e w', e = Ending.returned (.int .i64 E) → w1 = w' → RNow w r s E e w') := fun e w' he hw => by
          subst hw
          exact ⟨he, H0.out.later C1 (Nat.le_refl _), C1.mono fun i h1 h2 => by omega⟩
        clear S1 Z1 F1 hn1 C1
        go_wp2
        go_ret
        exact R.out _ _ rfl rfl
    · rw [if_neg h]
      have P := Lib.hid (within_no hl at_ n hx h)
      have R : Hid (∀ e w', e = Ending.returned (.int .i64 1) → w = w' → RNow w r s 1 e w') := fun e w' he hw => by subst hw; exact ⟨he, hl, Chg.refl _ _⟩
      clear h hl hx hw
      go_enter Try.func98, Try.ntmps98
      go_wp2_with (first | (go_at_call 115; refine (H.out).mono ?_; rintro e w' ⟨rfl, rfl⟩) | (go_at_call 111; refine (P.out).mono ?_; rintro e w' ⟨rfl, rfl⟩))
      go_ret
      exact R.out _ _ rfl rfl
  · have H := Lib.hid (width_no n w hw)
    have e : (if within s at_ n then (lay s at_ (putC (got s at_ n) 0 n v).1, (putC (got s at_ n) 0 n v).2) else (s, 1)) = (s, 1) := by
      by_cases h : within s at_ n
      · rw [if_pos h, put_noW n v _ hw]
        show (lay s at_ (got s at_ n), (1 : Int)) = _
        rw [lay_got hl.ok h]
      · rw [if_neg h]
    rw [e]
    have R : Hid (∀ e w', e = Ending.returned (.int .i64 1) → w = w' → RNow w r s 1 e w') := fun e w' he hw => by subst hw; exact ⟨he, hl, Chg.refl _ _⟩
    clear e hl hx hw
    go_enter Try.func98, Try.ntmps98
    go_wp2_with (go_at_call 115; refine (H.out).mono ?_; rintro e w' ⟨rfl, rfl⟩)
    go_ret
    exact R.out _ _ rfl rfl
theorem putPlaceC_pair (L : List Int) (p : Int) (h : L.length = 4) : (putPlaceC L 0 p).2 ≠ 0 → (putPlaceC L 0 p).1 = L := by
  intro e
  by_cases hp : p < -1 ∨ p > 2147483647
  · exact (putPlaceRow_far [] 0 _ _ _ hp).2
  · rw [putPlaceC_of _ _ _ hp] at e ⊢
    rcases putC_pair L 4 (p % 4294967296) (by rw [h]; rfl) with ⟨e3, _⟩ | ⟨_, e4⟩
    · exact e3
    · exact absurd e4 e
theorem refsetplace_calls (hl : RLies w r s) (at_ p : Int) (hx : -9223372036854775808 ≤ at_ ∧ at_ ≤ 9223372036854775807) (hv : -9223372036854775808 ≤ p ∧ p ≤ 9223372036854775807) :
    Calls Try.prog 100 #[(.pointer (some ⟨r.g, 0, none⟩)), (.int .i64 at_), (.int .i64 p)] w (RNow w r (setPlace s at_ p).1 (setPlace s at_ p).2) := by
  unfold setPlace
  by_cases h : within s at_ 4
  · rw [if_pos h]
    have P := Lib.hid (within_yes hl at_ 4 h)
    have L := got_length hl.ok h
    have k2 := hl.hdB
    have lt : r.g < w.heap.size := blk_lt hl.head
    have M := in_row hl.ok h
    have r1 := hl.ok.high
    have r2 := hl.ok.len
    obtain ⟨A, rfl⟩ := Int.eq_ofNat_of_zero_le h.2.1
    obtain ⟨X, sl0, S⟩ := hl.cut A 4 h
    have sl : ∀ W, (Instr.sliceAt 48 (.slice (some ⟨r.b, 0, none⟩) s.B.length r.cb) (some (.int .i64 A)) (some (.int .i64 ((A : Int) + 4))) none).run Try.prog W = .ok (.slice (some X) 4 (r.cb - A)) W := sl0
    clear sl0
    have e1 : ((A : Int)).toNat = A := by omega
    have e2 : (4 : Int).toNat = 4 := rfl
    rw [e1, e2] at M
    rw [e2] at L
    have G := refputplace_callsF (some X) (r.cb - A) (got s A 4) 0 p w S (by omega) (fun e => by cases e) (by decide) hv
    have hL : Hid ((putPlaceC (got s A 4) 0 p).1.length = 4) := by show _ = _; rw [putPlaceC_length, L]
    have hW : Hid (write s A (putPlaceC (got s A 4) 0 p).1 = (lay s A (putPlaceC (got s A 4) 0 p).1, 0)) := by
      show write s A _ = _
      unfold write
      rw [if_pos (by rw [hL.out]; exact h)]
    have hE : Hid ((putPlaceC (got s A 4) 0 p).2 ≠ 0 → lay s A (putPlaceC (got s A 4) 0 p).1 = s) := fun e => by
      rw [putPlaceC_pair _ _ L e]; exact lay_got hl.ok h
    have hY := Lib.hid (bytes_putPlaceC (got s A 4) 0 p (got_bytes hl.ok A 4))
    rw [L] at G
    have G := Lib.hid G
    have H0 := Lib.hid hl
    have m6 : A + 4 ≤ 32768 := by omega
    generalize (putPlaceC (got s A 4) 0 p).1 = Y at G hL hW hE hY ⊢
    generalize (putPlaceC (got s A 4) 0 p).2 = E at G hE ⊢
    generalize s.B.length = N at k2 sl
    clear h hl hx r1 r2 M e1 e2 L S hv
    by_cases hz : E = 0
    · subst hz
      go_enter Try.func100, Try.ntmps100
      go_wp2_with (go_at_call 111; refine (P.out).mono ?_; rintro e w' ⟨rfl, rfl⟩)
      refine G.out.mono ?_
      rintro e w1 ⟨A1, c1, n1, hn1, rfl, S1, C1, Z1, F1⟩
      have H1 := H0.out.later C1 (Nat.le_refl _)
      have b1 := H0.out.o_lt
      have b2 := H0.out.b_lt
      have W := refwrite_calls H1 A A1 c1 Y S1 hY.out (fun _ ad e => by have := F1 rfl ad e; unfold Ra.has; omega) (by have := hL.out; omega) (by omega)
      rw [hW.out] at W
      rw [← hn1] at W
      have W := Lib.hid W
      have C1 := Lib.hid C1
      clear S1 Z1 F1 H1 b1 b2 hn1
      go_wp2_with fail
      refine W.out.mono ?_
      rintro e w2 ⟨rfl, hl2, hc2⟩
      have R : Hid (∀ e w', e = Ending.returned (.int .i64 0) → w2 = w' → RNow w r (lay s A Y) 0 e w') := fun e w' he hw => by
        subst hw
        exact ⟨he, hl2, (C1.out.mono fun i h1 h2 => by omega).trans hc2⟩
      clear hl2 hc2
      go_wp2
      go_ret
      exact R.out _ _ rfl rfl
    · have hE2 := hE.out hz
      rw [hE2]
      have t : (E == 0) = false := by rw [beq_eq_false_iff_ne]; exact hz
      clear hE2 hE
      go_enter Try.func100, Try.ntmps100
      go_wp2_with (go_at_call 111; refine (P.out).mono ?_; rintro e w' ⟨rfl, rfl⟩)
      refine G.out.mono ?_
      rintro e w1 ⟨A1, c1, n1, hn1, rfl, S1, C1, Z1, F1⟩
      have R : Hid (∀ e w', e = Ending.returned (.int .i64 E) → w1 = w' → RNow w r s E e w') := fun e w' he hw => by
        subst hw
        exact ⟨he, H0.out.later C1 (Nat.le_refl _), C1.mono fun i h1 h2 => by omega⟩
      clear S1 Z1 F1 hn1 C1
      go_wp2
      go_ret
      exact R.out _ _ rfl rfl
  · rw [if_neg h]
    have P := Lib.hid (within_no hl at_ 4 hx h)
    have R : Hid (∀ e w', e = Ending.returned (.int .i64 1) → w = w' → RNow w r s 1 e w') := fun e w' he hw => by subst hw; exact ⟨he, hl, Chg.refl _ _⟩
    clear h hl hx hv
    go_enter Try.func100, Try.ntmps100
    go_wp2_with (go_at_call 111; refine (P.out).mono ?_; rintro e w' ⟨rfl, rfl⟩)
    go_ret
    exact R.out _ _ rfl rfl

/-! ### Return, Free -/
theorem reffree_calls (hl : RLies w r s) : Calls Try.prog 82 #[(.pointer (some ⟨r.g, 0, none⟩))] w fun e w' => e = .returned (.int .i64 (free s)) ∧ w = w' := by
  have k1 := hl.hdO
  have r1 := hl.ok.high
  have H := Lib.hid hl
  clear hl
  generalize hn : s.own.length = n at k1 r1
  have hn' := Lib.hid hn
  clear hn
  go_enter Try.func82, Try.ntmps82
  go_wp2
  go_loop [3, 4] (fun c i => ∃ k : Nat, k ≤ n ∧ i = .int .i64 k ∧ c = .int .i64 ((s.own.take k).countP (fun c => decide (c < 0)) : Nat)) (fun _ i => n - (intOf i).toNat)
  case atStart => exact ⟨0, Nat.zero_le _, rfl, rfl⟩
  case round =>
    obtain ⟨k, hk, rfl, rfl⟩ := hrel
    have hc : (s.own.take k).countP (fun c => decide (c < 0)) ≤ k := Nat.le_trans List.countP_le_length (List.length_take_le _ _)
    by_cases hlt : k < n
    · have hi : k < s.own.length := by rw [hn'.out]; exact hlt
      have p2 := (H.out.own.cellAt k hi).1
      have T := Lib.hid (countP_take (fun c => decide (c < 0)) s.own k hi)
      generalize (s.own.take k).countP (fun c => decide (c < 0)) = m at T hc ⊢
      generalize s.own.getD k 0 = c at p2 T
      clear hi
      by_cases h0 : c < 0
      · go_wp2
        go_round
        case rel => exact ⟨k + 1, hlt, by go_num, by rw [T.out, if_pos (by simpa using h0)]; go_num⟩
        case measure => simp [intOf]; omega
      · have T2 : Hid ((s.own.take (k + 1)).countP (fun c => decide (c < 0)) = m) := by have := T.out; rw [if_neg (by simpa using h0)] at this; exact this
        have h0 : 0 ≤ c := by omega
        go_wp2
        go_round
        case rel => exact ⟨k + 1, hlt, by go_num, by rw [T2.out]⟩
        case measure => simp [intOf]; omega
    · obtain rfl : k = n := by omega
      clear hc
      have T : Hid (((s.own.take k).countP (fun c => decide (c < 0))) = free s) := by
        show _ = _
        rw [List.take_of_length_le (by rw [hn'.out]; exact Nat.le_refl _)]; rfl
      rw [T.out]
      clear T
      go_wp2
      go_ret
      exact ⟨rfl, rfl⟩

end Go.Proofs.Ytmffdlebahdihaa.Arena

/- The reference's arena: Grant and New: what each answers, and what it writes. -/
namespace Go.Proofs.Ytmffdlebahdihaa.Arena
open Go Go.RowKit Go.Proofs.Ytmffdlebahdihaa.Mem Go.Proofs.Ytmffdlebahdihaa.CodecPure Go.Proofs.Ytmffdlebahdihaa.ArenaPure Go.Proofs.Ytmffdlebahdihaa.Codec
set_option linter.unusedVariables false
set_option maxRecDepth 100000
variable {w w' : World} {s : St} {r : Ra}
theorem Z1024_getD (j : Nat) : Z1024.getD j 0 = 0 := by
  rw [Z1024, List.getD_eq_getElem?_getD, List.getElem?_replicate]
  split <;> rfl
/-- two answers, numbers; the reference's arena is so now; nothing else that was there has turned -/
def RNow2 (w : World) (r : Ra) (s' : St) (x y : Int) (e : Ending) (w' : World) : Prop :=
  e = .returned (.tuple #[.int .i64 x, .int .i64 y]) ∧ RLies w' r s' ∧ Chg r.has w w'
set_option maxRecDepth 100000 in
theorem refgrant_calls (hl : RLies w r s) (c : Int) : Calls Try.prog 91 #[(.pointer (some ⟨r.g, 0, none⟩)), (.int .i64 c)] w (RNow2 w r (grant s c).1 (grant s c).2.1 (grant s c).2.2) := by
  unfold grant
  by_cases h : c < 0 ∨ 8 ≤ c
  · rw [if_pos h]
    have R : Hid (∀ e w', e = Ending.returned (.tuple #[.int .i64 0, .int .i64 1]) → w = w' → RNow2 w r s 0 1 e w') := fun e w' he hw => by subst hw; exact ⟨he, hl, Chg.refl _ _⟩
    clear hl
    rcases h with h | h
    · go_enter Try.func91, Try.ntmps91
      go_wp2
      go_ret2
      exact R.out _ _ rfl rfl
    · have h' : ¬ c < 0 := by omega
      go_enter Try.func91, Try.ntmps91
      go_wp2
      go_ret2
      exact R.out _ _ rfl rfl
  · rw [if_neg h]
    have h1 : 0 ≤ c := by omega
    have h2 : c < 8 := by omega
    have k1 := hl.hdO
    have r1 := hl.ok.high
    have H := Lib.hid hl
    have HF : Hid (∀ k, k < s.own.length → s.own.getD k 0 < 0 → (∀ j, j < k → 0 ≤ s.own.getD j 0) → ∀ e w', e = Ending.returned (.tuple #[.int .i64 k, .int .i64 0]) → RLies w' r (granted s k c) → Chg r.has w w' → RNow2 w r (if first s.own < s.own.length then (⟨s.own.set (first s.own) c, splice s.B (1024 * first s.own) Z1024⟩, (first s.own : Int), 0) else (s, 0, 2) : St × Int × Int).1 (if first s.own < s.own.length then (⟨s.own.set (first s.own) c, splice s.B (1024 * first s.own) Z1024⟩, (first s.own : Int), 0) else (s, 0, 2) : St × Int × Int).2.1 (if first s.own < s.own.length then (⟨s.own.set (first s.own) c, splice s.B (1024 * first s.own) Z1024⟩, (first s.own : Int), 0) else (s, 0, 2) : St × Int × Int).2.2 e w') := fun k hk h0 hj e w' he hw hc => by
      rw [first_eq _ k hk h0 hj, if_pos hk]
      exact ⟨he, hw, hc⟩
    have HN : Hid ((∀ j, j < s.own.length → 0 ≤ s.own.getD j 0) → ∀ e w', e = Ending.returned (.tuple #[.int .i64 0, .int .i64 2]) → w = w' → RNow2 w r (if first s.own < s.own.length then (⟨s.own.set (first s.own) c, splice s.B (1024 * first s.own) Z1024⟩, (first s.own : Int), 0) else (s, 0, 2) : St × Int × Int).1 (if first s.own < s.own.length then (⟨s.own.set (first s.own) c, splice s.B (1024 * first s.own) Z1024⟩, (first s.own : Int), 0) else (s, 0, 2) : St × Int × Int).2.1 (if first s.own < s.own.length then (⟨s.own.set (first s.own) c, splice s.B (1024 * first s.own) Z1024⟩, (first s.own : Int), 0) else (s, 0, 2) : St × Int × Int).2.2 e w') := fun hj e w' he hw => by
      rw [if_neg (first_none _ hj)]
      subst hw
      exact ⟨he, hl, Chg.refl _ _⟩
    revert HF HN
    generalize (if first s.own < s.own.length then (⟨s.own.set (first s.own) c, splice s.B (1024 * first s.own) Z1024⟩, (first s.own : Int), 0) else (s, 0, 2) : St × Int × Int) = q
    intro HF HN
    have LN := Lib.hid hl.ok.len
    clear hl h
    generalize hn : s.own.length = n at k1 r1 HF HN
    have hn' := Lib.hid hn
    clear hn
    go_enter Try.func91, Try.ntmps91
    go_wp2
    go_loopw [6] (fun i wr => ∃ k : Nat, k ≤ n ∧ i = .int .i64 k ∧ Hid (∀ j, j < k → 0 ≤ s.own.getD j 0) ∧ w = wr) (fun i _ => n - (intOf i).toNat)
    case atStart => exact ⟨0, Nat.zero_le _, rfl, fun j hj => by omega, rfl⟩
    case round =>
      obtain ⟨k, hk, rfl, J, rfl⟩ := hrel
      by_cases hlt : k < n
      · have hi : k < s.own.length := by rw [hn'.out]; exact hlt
        obtain ⟨p1, p2⟩ := H.out.own.cellAt k hi
        by_cases h0 : s.own.getD k 0 < 0
        · have F := Lib.hid (HF.out k hlt h0 J.out)
          have G0 : Hid (RLies (w.setCell ⟨r.o, k, none⟩ (.int .i64 c)) r ⟨s.own.set k c, splice s.B (1024 * k) (Z1024.take 0)⟩) := by
            have := H.out.setOwn k hi c (by omega)
            rw [List.take_zero, splice_none]
            exact this
          have GE : Hid (∀ j, j < 1024 → (⟨s.own.set k c, (splice s.B (1024 * k) (Z1024.take j)).set (1024 * k + j) 0⟩ : St) = ⟨s.own.set k c, splice s.B (1024 * k) (Z1024.take (j + 1))⟩) := fun j hj => by
            congr 1
            have := splice_set s.B Z1024 (1024 * k) j (by rw [Z1024_length]; exact hj) (by rw [Z1024_length, LN.out]; omega)
            rw [← this]
            congr 1
            exact (Z1024_getD j).symm
          have GL : Hid (∀ j, j ≤ 1024 → (splice s.B (1024 * k) (Z1024.take j)).length = s.B.length) := fun j hj => length_splice _ _ _ (by rw [List.length_take, Z1024_length, LN.out]; omega)
          have GF : Hid ((⟨s.own.set k c, splice s.B (1024 * k) (Z1024.take 1024)⟩ : St) = granted s k c) := by
            show _ = _
            rw [List.take_of_length_le (by rw [Z1024_length]; exact Nat.le_refl _)]; rfl
          have LB : 1024 * k + 1024 ≤ s.B.length := by rw [LN.out]; omega
          have LB2 : s.B.length ≤ 32768 := by rw [LN.out, hn'.out]; omega
          have C0 : Hid (Chg r.has w (w.setCell ⟨r.o, k, none⟩ (.int .i64 c))) := Chg.setCell _ _ _ (.inl rfl)
          generalize s.own.getD k 0 = d at p1 h0
          generalize s.B.length = N at LB LB2 GL
          clear hi
          go_wp2
          go_loopw [7] (fun i w2 => ∃ j : Nat, j ≤ 1024 ∧ i = .int .i64 j ∧ Hid (RLies w2 r ⟨s.own.set k c, splice s.B (1024 * k) (Z1024.take j)⟩) ∧ Hid (Chg r.has w w2)) (fun i _ => 1024 - (intOf i).toNat)
          case atStart => exact ⟨0, Nat.zero_le _, rfl, G0.out, C0.out⟩
          case round =>
            obtain ⟨j, hj, rfl, HL, HC⟩ := hrel
            by_cases hlt2 : j < 1024
            · have kb := HL.out.hdB
              have lb := GL.out j hj
              have e1 : (⟨s.own.set k c, splice s.B (1024 * k) (Z1024.take j)⟩ : St).B.length = N := lb
              rw [e1] at kb
              have cc := HL.out.byt.cellAt (1024 * k + j) (by rw [lb]; omega)
              obtain ⟨c3, c4⟩ := cc
              have NX := Lib.hid (HL.out.setByte (1024 * k + j) (by rw [e1]; omega) 0 (by decide))
              have GE2 := GE.out j hlt2
              have GE3 : Hid (RLies (wr.setCell ⟨r.b, 1024 * k + j, none⟩ (.int .u8 0)) r ⟨s.own.set k c, splice s.B (1024 * k) (Z1024.take (j + 1))⟩) := by rw [← GE2]; exact NX.out
              have C3 : Hid (Chg r.has w (wr.setCell ⟨r.b, 1024 * k + j, none⟩ (.int .u8 0))) := HC.out.trans (Chg.setCell _ _ _ (.inr rfl))
              generalize (⟨s.own.set k c, splice s.B (1024 * k) (Z1024.take j)⟩ : St).B.getD (1024 * k + j) 0 = old at c3
              have z1 : ((1024 : Int) * k + j).toNat = 1024 * k + j := by omega
              have z2 : (1024 : Int) * k + j < N := by omega
              have z3 : 1024 * k + j < N := by omega
              have z4 : (1024 : Int) * k ≤ 32768 := by omega
              clear NX GE2 e1 lb
              go_wp2
              go_roundw
              case rel => exact ⟨j + 1, hlt2, by go_num, GE3.out, C3.out⟩
              case measure => simp [intOf]; omega
            · obtain rfl : j = 1024 := by omega
              have F2 := Lib.hid (F.out _ wr rfl (by rw [← GF.out]; exact HL.out) HC.out)
              clear F
              go_wp2
              go_ret2
              exact F2.out
        · have h0 : 0 ≤ s.own.getD k 0 := by omega
          have J2 : Hid (∀ j, j < k + 1 → 0 ≤ s.own.getD j 0) := fun j hj => by
            rcases Nat.lt_or_ge j k with h' | h'
            · exact J.out j h'
            · obtain rfl : j = k := by omega
              omega
          generalize s.own.getD k 0 = d at p1 h0
          clear hi
          go_wp2
          go_roundw
          case rel => exact ⟨k + 1, hlt, by go_num, J2, trivial⟩
          case measure => simp [intOf]; omega
      · obtain rfl : k = n := by omega
        have F := Lib.hid (HN.out J.out)
        clear HF HN
        go_wp2
        go_ret2
        exact F.out _ _ rfl rfl

/-- a reference's arena of the call's own, or the error -/
def RNewA (w : World) (n : Int) (e : Ending) (w' : World) : Prop :=
  (n < 1 ∨ 32 < n) ∧ e = .returned (.tuple #[.pointer none, .int .i64 1]) ∧ w = w' ∨
  1 ≤ n ∧ n ≤ 32 ∧ ∃ r : Ra, e = .returned (.tuple #[.pointer (some ⟨r.g, 0, none⟩), .int .i64 0]) ∧ RLies w' r (new n.toNat) ∧ Chg (fun _ => False) w w' ∧ w.heap.size ≤ r.g ∧ w.heap.size ≤ r.o ∧ w.heap.size ≤ r.b
theorem made_zeros (n : Nat) : madeCells (Value.int .u8 0).cells (n * 1) = (nums .u8 (List.replicate n 0)).toArray := by
  apply Array.ext_getElem?
  intro i
  unfold madeCells nums
  rw [Array.getElem?_map, Array.getElem?_range, List.getElem?_toArray, List.getElem?_map, List.getElem?_replicate, Nat.mul_one]
  split
  · show some (#[Value.int .u8 0][i % 1]!) = some (Value.int .u8 0)
    rw [Nat.mod_one]; rfl
  · rfl
theorem make_bytes (n : Nat) (h : n ≤ 281474976710656) (W : World) : (Instr.makeSlice 48 (.int .i64 n) (.int .i64 n)).run Try.prog W = .ok (.slice (some ⟨W.heap.size, 0, none⟩) n n) (W.alloc (.cells (nums .u8 (List.replicate n 0)).toArray 5)) := by
  obtain ⟨i0, hi, hz0, hz1, hz2⟩ := info_parts infoByte
  rw [run_make W 48 5 i0 (.int .u8 0) Try.underlying48 hi hz0 .i64 .i64 n n (by omega) (by omega) (by rw [hz2]; omega) (by omega), hz1]
  have e : ((n : Int)).toNat = n := by omega
  rw [e, made_zeros]
theorem infoInt : (Try.prog.info? 3).map (fun i => (i.zero, i.size, i.bytes)) = some (some (.int .i64 0), 1, 8) := by kernel_rfl
/-- a header, the bytes' row and the owners' row so far -/
structure RMade (w : World) (B m : Nat) (v : Value) (k : Nat) : Prop where
  head : w.heap[B + 1]? = some (.cells #[v, .slice (some ⟨B, 0, none⟩) (1024 * m) (1024 * m)] 128 (0, 0))
  byt : w.heap[B]? = some (.cells (nums .u8 (List.replicate (1024 * m) 0)).toArray 5 (0, 0))
  own : Own w (B + 2) 3 .i64 v (List.replicate k (-1))
theorem RMade.lies {w : World} {B m : Nat} {v : Value} (h : RMade w B m v m) (h1 : 1 ≤ m) (h2 : m ≤ 32) : ∃ r : Ra, r.g = B + 1 ∧ RLies w r (new m) ∧ B ≤ r.o ∧ B ≤ r.b := by
  obtain ⟨A, c, rfl⟩ := h.own.form
  rw [List.length_replicate] at h
  obtain ⟨g, cs, rfl, hg, hh, _, hl, hc, hm, hcell⟩ := h.own.blk (by rw [List.length_replicate]; omega)
  have ho : (new m).own.length = m := by simp [new]
  have hb : (new m).B.length = 1024 * m := by simp [new]
  refine ⟨⟨B + 1, g, c, B, 1024 * m⟩, rfl, ⟨new_ok m h1 h2, ?_, ?_, ?_, ?_, ?_, ?_⟩, by show B ≤ g; omega, Nat.le_refl _⟩
  · rw [ho, hb]; exact h.head
  · rw [ho]
    exact h.own.mono (Nat.zero_le _)
  · have := Own.of_blk (base := 0) (k := .u8) (c := 1024 * m) (l := (new m).B) (cs := nums .u8 (List.replicate (1024 * m) 0)) (Nat.zero_le _) h.byt (by rw [nums_length]; exact Nat.le_refl _) (by rw [nums_length, List.length_replicate]) (by unfold maxLen; omega) (fun j hj => nums_get _ _ _ hj)
    exact this
  · show B + 1 ≠ g; omega
  · show B + 1 ≠ B; omega
  · show g ≠ B; omega
set_option maxRecDepth 100000 in
theorem refnew_calls (n : Int) (w : World) : Calls Try.prog 42 #[(.int .i64 n)] w (RNewA w n) := by
  by_cases h : n < 1 ∨ 32 < n
  · have R : Hid (∀ e w', e = Ending.returned (.tuple #[.pointer none, .int .i64 1]) → w = w' → RNewA w n e w') := fun e w' he hw => .inl ⟨h, he, hw⟩
    rcases h with h | h
    · go_enter Try.func42, Try.ntmps42
      go_wp2
      go_ret2
      exact R.out _ _ rfl rfl
    · have h' : ¬ n < 1 := by omega
      go_enter Try.func42, Try.ntmps42
      go_wp2
      go_ret2
      exact R.out _ _ rfl rfl
  · have h1 : ¬ n < 1 := by omega
    have h2 : ¬ 32 < n := by omega
    obtain ⟨m, rfl⟩ := Int.eq_ofNat_of_zero_le (show 0 ≤ n by omega)
    have R : Hid (∀ e w' v, RMade w' w.heap.size m v m → Chg (fun b => w.heap.size ≤ b) w w' → e = Ending.returned (.tuple #[.pointer (some ⟨w.heap.size + 1, 0, none⟩), .int .i64 0]) → RNewA w m e w') := fun e w' v hM hc he => by
      refine .inr ⟨by omega, by omega, ?_⟩
      obtain ⟨r, e1, h3, h4, h5⟩ := hM.lies (by omega) (by omega)
      exact ⟨r, by rw [he, e1], by rw [Int.toNat_natCast]; exact h3, hc.mono fun i h1 h2 => by omega, by omega, h4, h5⟩
    have mk : ∀ W : World, (Instr.makeSlice 48 (.int .i64 (1024 * (m : Int))) (.int .i64 (1024 * (m : Int)))).run Try.prog W = .ok (.slice (some ⟨W.heap.size, 0, none⟩) (1024 * m) (1024 * m)) (W.alloc (.cells (nums .u8 (List.replicate (1024 * m) 0)).toArray 5)) := fun W => by
      have := make_bytes (1024 * m) (by omega) W
      rw [show ((1024 * m : Nat) : Int) = 1024 * (m : Int) by omega] at this
      exact this
    have M0 : Hid (RMade ((w.alloc (.cells (nums .u8 (List.replicate (1024 * m) 0)).toArray 5)).alloc (.cells #[.slice none 0 0, .slice (some ⟨w.heap.size, 0, none⟩) (1024 * m) (1024 * m)] 128)) w.heap.size m (.slice none 0 0) 0) := by
      refine ⟨?_, ?_, Own.nil _ _ _ _⟩
      · have e : w.heap.size + 1 = (w.alloc (.cells (nums .u8 (List.replicate (1024 * m) 0)).toArray 5)).heap.size := by simp
        rw [e]; exact heap_alloc_at _ _
      · rw [Below.heap_alloc _ _ _ (by simp)]; exact heap_alloc_at _ _
    have C0 : Hid (Chg (fun b => w.heap.size ≤ b) w ((w.alloc (.cells (nums .u8 (List.replicate (1024 * m) 0)).toArray 5)).alloc (.cells #[.slice none 0 0, .slice (some ⟨w.heap.size, 0, none⟩) (1024 * m) (1024 * m)] 128))) := (Chg.alloc _ _ _).trans (Chg.alloc _ _ _)
    generalize (nums .u8 (List.replicate (1024 * m) 0)).toArray = zs at mk M0 C0
    clear h
    go_enter Try.func42, Try.ntmps42
    go_wp2
    generalize (w.alloc (.cells zs 5)).alloc (.cells #[.slice none 0 0, .slice (some ⟨w.heap.size, 0, none⟩) (1024 * m) (1024 * m)] 128) = w0 at M0 C0 ⊢
    clear mk
    go_loopw [5] (fun i wr => ∃ (k : Nat) (v : Value), k ≤ m ∧ i = .int .i64 k ∧ Hid (RMade wr w.heap.size m v k) ∧ Hid (Chg (fun b => w.heap.size ≤ b) w wr)) (fun i _ => m - (intOf i).toNat)
    case atStart => exact ⟨0, _, Nat.zero_le _, rfl, M0.out, C0.out⟩
    case round =>
      obtain ⟨k, v, hk, rfl, M, C⟩ := hrel
      by_cases hlt : k < m
      · have c1 : wr.cell? ⟨w.heap.size + 1, 0, none⟩ = some v := by rw [blk_cell M.out.head]; rfl
        have lt : w.heap.size + 1 < wr.heap.size := blk_lt M.out.head
        have O1 : Hid (Own (wr.alloc (.cells #[.int .i64 (-1)] 3)) (w.heap.size + 2) 3 .i64 v (List.replicate k (-1))) := M.out.own.chg (S := fun _ => False) (Chg.alloc _ _ _) fun _ _ => id
        have S1 : Hid (Sl (wr.alloc (.cells #[.int .i64 (-1)] 3)) .i64 (some ⟨wr.heap.size, 0, none⟩) [-1]) := (Own.lit wr 3 .i64 [-1] (by decide)).sl
        go_wp2_with (at_builtin; refine wpList_app rfl _ _ 25 rfl (w.heap.size + 2) 3 .i64 8 Try.underlying25 infoInt v (List.replicate k (-1)) rfl O1.out (some ⟨wr.heap.size, 0, none⟩) 1 1 [-1] rfl rfl S1.out (fun e => by cases e) ?h63 ?hby ?hba ?_; (case h63 => rw [List.length_replicate]; unfold maxLen; omega); (case hby => rw [List.length_replicate]; omega); (case hba => simp; omega); intro A' c' n' w3 hn' hown hchg; have N3 : n' = k + 1 := (by rw [hn', List.length_replicate]); clear hn'; subst N3; have C3 : Hid (Chg (fun b => w.heap.size + 2 ≤ b) wr w3) := (Chg.alloc _ wr _).trans hchg; have H3 := Lib.hid (C3.out.keep M.out.head (show ¬ w.heap.size + 2 ≤ w.heap.size + 1 by omega)); have c3 : w3.cell? ⟨w.heap.size + 1, 0, none⟩ = some v := (by rw [blk_cell H3.out]; rfl); have f3 := blk_frozen H3.out 0; have M4 : Hid (RMade (w3.setCell ⟨w.heap.size + 1, 0, none⟩ (.slice A' (k + 1) c')) w.heap.size m (.slice A' (k + 1) c') (k + 1)) := ⟨(by rw [setCell_row H3.out, setRow_heap w3 _ _ _ _ (0, 0) H3.out]; rfl), (Chg.setCell (S := fun x => x = w.heap.size + 1) w3 ⟨w.heap.size + 1, 0, none⟩ _ rfl).keep (C3.out.keep M.out.byt (show ¬ w.heap.size + 2 ≤ w.heap.size by omega)) (show ¬ w.heap.size = w.heap.size + 1 by omega), by rw [List.replicate_succ']; exact hown.chg (Chg.setCell (S := fun x => x = w.heap.size + 1) w3 ⟨w.heap.size + 1, 0, none⟩ _ rfl) fun g e he => by have := (World.ownsRow.lt hown g e).1; omega⟩; have C4 : Hid (Chg (fun b => w.heap.size ≤ b) w (w3.setCell ⟨w.heap.size + 1, 0, none⟩ (.slice A' (k + 1) c'))) := (C.out.trans (C3.out.mono fun i _ h => by omega)).trans (Chg.setCell _ _ _ (show w.heap.size ≤ w.heap.size + 1 by omega)); clear hown hchg)
        go_roundw
        case rel => exact ⟨k + 1, _, hlt, by go_num, M4.out, C4.out⟩
        case measure => simp [intOf]; omega
      · obtain rfl : k = m := by omega
        have F := Lib.hid (R.out _ wr v M.out C.out rfl)
        clear R
        go_wp2
        go_ret2
        exact F.out

end Go.Proofs.Ytmffdlebahdihaa.Arena

