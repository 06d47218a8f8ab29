/- Chapter 05 in plain words: pages, each with a class or free, and all their bytes in one row. No program in sight. -/
import Derived.Test.YtolpjgpimholcaaCodecFacts
import Derived.Test.YtolpjgpimholcaaCodecOwn
namespace Go.Proofs.Ytolpjgpimholcaa.ArenaPure
open Go Go.RowKit Go.Proofs.Ytolpjgpimholcaa.Mem Go.Proofs.Ytolpjgpimholcaa.CodecPure Go.Proofs.Ytolpjgpimholcaa.Codec
set_option linter.unusedVariables false
set_option maxRecDepth 100000

structure St where
  own : List Int
  B : List Int
def Z1024 : List Int := List.replicate 1024 0
theorem Z1024_length : Z1024.length = 1024 := by rw [Z1024, List.length_replicate]
theorem Z1024_bytes : Bytes Z1024 := fun x hx => by rw [List.eq_of_mem_replicate hx]; decide
/-- the bytes of a page -/
def pg (B : List Int) (i : Nat) : List Int := (B.drop (1024 * i)).take 1024
structure Ok (s : St) : Prop where
  low : 1 ≤ s.own.length
  high : s.own.length ≤ 32
  len : s.B.length = 1024 * s.own.length
  bytes : Bytes s.B
  cls : ∀ i, i < s.own.length → -1 ≤ s.own.getD i 0 ∧ s.own.getD i 0 < 8
def within (s : St) (at_ n : Int) : Prop := 0 ≤ n ∧ 0 ≤ at_ ∧ at_ < 1024 * s.own.length ∧ 0 ≤ s.own.getD (at_ / 1024).toNat 0 ∧ n ≤ 1024 - at_ % 1024
instance (s : St) (at_ n : Int) : Decidable (within s at_ n) := by unfold within; infer_instance
def new (n : Nat) : St := ⟨List.replicate n (-1), List.replicate (1024 * n) 0⟩
def first (own : List Int) : Nat := own.findIdx (fun c => decide (c < 0))
def grant (s : St) (c : Int) : St × Int × Int :=
  if c < 0 ∨ 8 ≤ c then (s, 0, 1)
  else if first s.own < s.own.length then (⟨s.own.set (first s.own) c, splice s.B (1024 * first s.own) Z1024⟩, (first s.own : Int), 0) else (s, 0, 2)
def ret (s : St) (n : Int) : St × Int :=
  if n < 0 ∨ (s.own.length : Int) ≤ n then (s, 1) else if s.own.getD n.toNat 0 < 0 then (s, 5) else (⟨s.own.set n.toNat (-1), s.B⟩, 0)
def owner (s : St) (n : Int) : Int × Int := if n < 0 ∨ (s.own.length : Int) ≤ n then (0, 1) else (s.own.getD n.toNat 0, 0)
def free (s : St) : Nat := s.own.countP (fun c => decide (c < 0))
def got (s : St) (at_ n : Int) : List Int := (s.B.drop at_.toNat).take n.toNat
def lay (s : St) (at_ : Int) (l : List Int) : St := ⟨s.own, splice s.B at_.toNat l⟩
def readA (s : St) (at_ n : Int) : List Int × Int := if within s at_ n then (got s at_ n, 0) else ([], 1)
def write (s : St) (at_ : Int) (l : List Int) : St × Int := if within s at_ l.length then (lay s at_ l, 0) else (s, 1)
def number (s : St) (at_ w : Int) : Int × Int := if within s at_ w then getC (got s at_ w) 0 w else (0, 1)
def setNumber (s : St) (at_ w v : Int) : St × Int := if within s at_ w then (lay s at_ (putC (got s at_ w) 0 w v).1, (putC (got s at_ w) 0 w v).2) else (s, 1)
def place (s : St) (at_ : Int) : Int × Int := if within s at_ 4 then getPlaceC (got s at_ 4) 0 else (0, 1)
def setPlace (s : St) (at_ p : Int) : St × Int := if within s at_ 4 then (lay s at_ (putPlaceC (got s at_ 4) 0 p).1, (putPlaceC (got s at_ 4) 0 p).2) else (s, 1)

/-! ### What stays in order -/
theorem pg_length {s : St} (h : Ok s) (i : Nat) (hi : i < s.own.length) : (pg s.B i).length = 1024 := by
  have := h.len
  unfold pg
  rw [List.length_take, List.length_drop]
  omega
theorem pg_bytes {s : St} (h : Ok s) (i : Nat) : Bytes (pg s.B i) := fun x hx => h.bytes x (List.mem_of_mem_drop (List.mem_of_mem_take hx))
theorem page_of {s : St} {at_ n : Int} (h : within s at_ n) : (at_ / 1024).toNat < s.own.length := by
  obtain ⟨h1, h2, h3, h4, h5⟩ := h
  omega
theorem in_row {s : St} (hs : Ok s) {at_ n : Int} (h : within s at_ n) : at_.toNat + n.toNat ≤ s.B.length := by
  obtain ⟨h1, h2, h3, h4, h5⟩ := h
  have := hs.len
  omega
theorem got_length {s : St} (hs : Ok s) {at_ n : Int} (h : within s at_ n) : (got s at_ n).length = n.toNat := by
  have := in_row hs h
  unfold got
  rw [List.length_take, List.length_drop]
  omega
theorem got_bytes {s : St} (hs : Ok s) (at_ n : Int) : Bytes (got s at_ n) := fun x hx => hs.bytes x (List.mem_of_mem_drop (List.mem_of_mem_take hx))
theorem lay_ok {s : St} (hs : Ok s) {at_ : Int} {l : List Int} (hl : at_.toNat + l.length ≤ s.B.length) (hb : Bytes l) : Ok (lay s at_ l) :=
  ⟨hs.low, hs.high, by show (splice s.B at_.toNat l).length = _; rw [length_splice _ _ _ hl]; exact hs.len, bytes_splice _ _ _ hs.bytes hb, hs.cls⟩
/-- what is read lies in its page -/
theorem got_page {s : St} (hs : Ok s) {at_ n : Int} (h : within s at_ n) : got s at_ n = ((pg s.B (at_ / 1024).toNat).drop (at_ % 1024).toNat).take n.toNat := by
  obtain ⟨h1, h2, h3, h4, h5⟩ := h
  unfold got pg
  apply List.ext_getElem?
  intro i
  rw [List.getElem?_take, List.getElem?_take]
  by_cases hi : i < n.toNat
  · rw [if_pos hi, if_pos hi, List.getElem?_drop, List.getElem?_drop, List.getElem?_take, if_pos (by omega), List.getElem?_drop]
    congr 1; omega
  · rw [if_neg hi, if_neg hi]
/-- what is laid is laid into its page, and other pages stay -/
theorem lay_page {s : St} (hs : Ok s) {at_ : Int} {l : List Int} (h : within s at_ l.length) (i : Nat) (hi : i < s.own.length) :
    pg (lay s at_ l).B i = if i = (at_ / 1024).toNat then splice (pg s.B i) (at_ % 1024).toNat l else pg s.B i := by
  have hr := in_row hs h
  obtain ⟨h1, h2, h3, h4, h5⟩ := h
  have hlen := hs.len
  have hr' : at_.toNat + l.length ≤ s.B.length := by omega
  show ((splice s.B at_.toNat l).drop (1024 * i)).take 1024 = _
  apply List.ext_getElem?
  intro j
  rw [List.getElem?_take]
  by_cases hj : j < 1024
  · rw [if_pos hj, List.getElem?_drop, splice_get _ _ _ hr']
    by_cases e : i = (at_ / 1024).toNat
    · rw [if_pos e, splice_get _ _ _ (by rw [pg_length hs i hi]; omega)]
      by_cases hin : (at_ % 1024).toNat ≤ j ∧ j < (at_ % 1024).toNat + l.length
      · rw [if_pos (by omega), if_pos hin]
        congr 1; omega
      · rw [if_neg (by omega), if_neg hin]
        unfold pg
        rw [List.getElem?_take, if_pos hj, List.getElem?_drop]
    · rw [if_neg e, if_neg (by omega)]
      unfold pg
      rw [List.getElem?_take, if_pos hj, List.getElem?_drop]
  · rw [if_neg hj]
    by_cases e : i = (at_ / 1024).toNat
    · rw [if_pos e, List.getElem?_eq_none (by rw [length_splice _ _ _ (by rw [pg_length hs i hi]; omega), pg_length hs i hi]; omega)]
    · rw [if_neg e, List.getElem?_eq_none (by rw [pg_length hs i hi]; omega)]

end Go.Proofs.Ytolpjgpimholcaa.ArenaPure
