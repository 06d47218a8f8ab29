/- Numbers in bytes, as plain functions on lists of numbers: what is laid, what is read, what is refused. No program in sight. -/
import Derived.Laws.BitsLemmas
import Derived.Laws.CopyOwn
import Derived.RowKit
namespace Go.Proofs.Ytolpjgpimholcaa.CodecPure
open Go Go.RowKit
set_option linter.unusedVariables false
set_option maxRecDepth 100000

/-- bytes, the lowest first, as one number -/
def le : List Int → Int
  | [] => 0
  | x :: xs => x + 256 * le xs
/-- a number's bytes, the lowest first -/
def leb (v : Int) : Nat → List Int
  | 0 => []
  | n + 1 => v % 256 :: leb (v / 256) n
/-- are these bytes? -/
def Bytes (l : List Int) : Prop := ∀ x ∈ l, 0 ≤ x ∧ x ≤ 255

theorem leb_length (n : Nat) : ∀ v, (leb v n).length = n := by
  induction n with
  | zero => intro v; rfl
  | succ n ih => intro v; simp [leb, ih]
theorem leb_bytes (n : Nat) : ∀ v, Bytes (leb v n) := by
  induction n with
  | zero => intro v x hx; simp [leb] at hx
  | succ n ih =>
    intro v x hx
    simp only [leb, List.mem_cons] at hx
    rcases hx with rfl | hx
    · omega
    · exact ih _ x hx
theorem p256 (n : Nat) : (2 : Int) ^ (8 * (n + 1)) = 256 * 2 ^ (8 * n) := by
  have e : 8 * (n + 1) = 8 + 8 * n := by omega
  rw [e, Int.pow_add]; rfl
theorem two_pos (a : Nat) : (0 : Int) < 2 ^ a := Int.pow_pos (by decide)
theorem le_range (l : List Int) (h : Bytes l) : 0 ≤ le l ∧ le l < 2 ^ (8 * l.length) := by
  induction l with
  | nil => exact ⟨Int.le_refl _, by decide⟩
  | cons x xs ih =>
    have hx := h x (by simp)
    have := ih fun y hy => h y (by simp [hy])
    have e : (2 : Int) ^ (8 * (x :: xs).length) = 256 * 2 ^ (8 * xs.length) := p256 xs.length
    rw [e]
    generalize (2 : Int) ^ (8 * xs.length) = P at this
    simp only [le]
    omega
theorem le_leb (n : Nat) : ∀ v, le (leb v n) = v % 2 ^ (8 * n) := by
  induction n with
  | zero => intro v; simp only [leb, le]; exact (Int.emod_one v).symm
  | succ n ih =>
    intro v
    simp only [leb, le]
    rw [ih, p256]
    have hP := two_pos (8 * n)
    generalize (2 : Int) ^ (8 * n) = P at hP
    have h1 := Int.mul_ediv_add_emod v 256
    have h2 := Int.mul_ediv_add_emod (v / 256) P
    have h3 := Int.emod_nonneg (v / 256) (show P ≠ 0 by omega)
    have h4 := Int.emod_lt_of_pos (v / 256) hP
    generalize v / 256 / P = q at h2
    generalize v / 256 % P = r at h2 h3 h4
    have e : v = (v % 256 + 256 * r) + 256 * P * q := by
      rw [Int.mul_assoc]; omega
    have h5 : 0 ≤ v % 256 + 256 * r ∧ v % 256 + 256 * r < 256 * P := by omega
    conv => rhs; rw [e]
    rw [Int.add_mul_emod_self_left, Int.emod_eq_of_lt h5.1 h5.2]
theorem leb_le (l : List Int) (h : Bytes l) : leb (le l) l.length = l := by
  induction l with
  | nil => rfl
  | cons x xs ih =>
    have hx := h x (by simp)
    simp only [le, List.length_cons, leb]
    have e1 : (x + 256 * le xs) % 256 = x := by omega
    have e2 : (x + 256 * le xs) / 256 = le xs := by omega
    rw [e1, e2, ih fun y hy => h y (by simp [hy])]
theorem leb_get (n : Nat) : ∀ (v : Int) (j : Nat), j < n → (leb v n).getD j 0 = v / 2 ^ (8 * j) % 256 := by
  induction n with
  | zero => intro v j h; omega
  | succ n ih =>
    intro v j h
    cases j with
    | zero => simp [leb]
    | succ j =>
      have := ih (v / 256) j (by omega)
      simp only [leb, List.getD_cons_succ]
      rw [this, p256, Int.ediv_ediv_of_nonneg (by decide)]
/-- one byte more -/
theorem le_take (l : List Int) : ∀ k, k < l.length → le (l.take (k + 1)) = le (l.take k) + l.getD k 0 * 2 ^ (8 * k) := by
  induction l with
  | nil => intro k h; simp at h
  | cons x xs ih =>
    intro k h
    cases k with
    | zero => simp [le]
    | succ k =>
      have := ih k (by simp at h; omega)
      simp only [List.take_succ_cons, le, List.getD_cons_succ]
      rw [this, p256]
      generalize (2 : Int) ^ (8 * k) = P
      generalize xs.getD k 0 = y
      rw [Int.mul_add, Int.add_assoc]
      congr 2
      rw [← Int.mul_assoc, ← Int.mul_assoc, Int.mul_comm 256 y]

theorem le_take_range (l : List Int) (k : Nat) (hk : k ≤ l.length) (h : Bytes l) : 0 ≤ le (l.take k) ∧ le (l.take k) < 2 ^ (8 * k) := by
  have := le_range (l.take k) fun x hx => h x (List.mem_of_mem_take hx)
  rw [List.length_take, Nat.min_eq_left hk] at this
  exact this
/-- do so many bytes lie there? -/
def there (n : Nat) (at_ width : Int) : Prop := (width = 1 ∨ width = 2 ∨ width = 4 ∨ width = 8) ∧ 0 ≤ at_ ∧ at_ + width ≤ n
instance (n : Nat) (at_ width : Int) : Decidable (there n at_ width) := by unfold there; exact inferInstance
/-- bytes with a number laid in, and the error -/
def putC (b : List Int) (at_ width v : Int) : List Int × Int :=
  if there b.length at_ width then
    if width < 8 ∧ v / 2 ^ (8 * width.toNat) ≠ 0 then (b, 6) else (splice b at_.toNat (leb v width.toNat), 0)
  else (b, 1)
/-- the number that lies there, and the error -/
def getC (b : List Int) (at_ width : Int) : Int × Int :=
  if there b.length at_ width then (le ((b.drop at_.toNat).take width.toNat), 0) else (0, 1)
/-- bytes with a place laid in, and the error -/
def putPlaceC (b : List Int) (at_ place : Int) : List Int × Int :=
  if there b.length at_ 4 then
    if place < -1 ∨ place > 2147483647 then (b, 6) else (splice b at_.toNat (leb (place % 4294967296) 4), 0)
  else (b, 1)
/-- the place that lies there, and the error -/
def getPlaceC (b : List Int) (at_ : Int) : Int × Int :=
  if there b.length at_ 4 then
    if le ((b.drop at_.toNat).take 4) = 4294967295 then (-1, 0)
    else if le ((b.drop at_.toNat).take 4) ≥ 2147483648 then (0, 6)
    else (le ((b.drop at_.toNat).take 4), 0)
  else (0, 1)

theorem u64_wrap (n : Int) : IntKind.u64.wrap n = n % 18446744073709551616 := by simp [IntKind.wrap, IntKind.bits, IntKind.signed]
theorem u64_wraps (n : Int) (h0 : 0 ≤ n) (h1 : n < 2 ^ 64) : IntKind.u64.wrap n = n := by rw [u64_wrap]; omega
/-- a byte that is laid above what is there -/
theorem or_byte (a x : Int) (k : Nat) (hk : k < 8) (ha : 0 ≤ a ∧ a < 2 ^ (8 * k)) (hx : 0 ≤ x ∧ x ≤ 255) :
    Go.bits .or .u64 a (IntKind.u64.wrap (x * 2 ^ (8 * k))) = a + x * 2 ^ (8 * k) := by
  have key : ∀ m : Fin 8, (2 : Int) ^ (8 * m.val) * 256 ≤ 18446744073709551616 ∧ 1 ≤ (2 : Int) ^ (8 * m.val) := by decide +kernel
  obtain ⟨b1, b2⟩ := key ⟨k, hk⟩
  simp only at b1 b2
  have h64 : (2 : Int) ^ 64 = 18446744073709551616 := by decide +kernel
  have hm : x * 2 ^ (8 * k) ≤ 255 * 2 ^ (8 * k) := Int.mul_le_mul_of_nonneg_right hx.2 (by omega)
  have hm0 : 0 ≤ x * 2 ^ (8 * k) := Int.mul_nonneg hx.1 (by omega)
  have hd : x * 2 ^ (8 * k) % 2 ^ (8 * k) = 0 := Int.mul_emod_left _ _
  rw [u64_wraps _ hm0 (by omega)]
  have hc : Go.bits .or .u64 a (x * 2 ^ (8 * k)) = Go.bits .or .u64 (x * 2 ^ (8 * k)) a := by
    unfold Go.bits
    simp only [BitVec.or_comm]
  rw [hc, bits_join .u64 64 (by decide) u64_wraps (8 * k) _ a hm0 hd (by omega) ha.1 ha.2 (by omega), Int.add_comm]

end Go.Proofs.Ytolpjgpimholcaa.CodecPure
