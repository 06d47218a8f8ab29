/- The walk of the law IntsNarrow: it returns true at any number of 64 bits, range by range. -/
import Derived.Test.YtbdfdnlhoomhaaaWrap
import Derived.Test.YtbdfdnlhoomhaaaBase
import Derived.Test.YtbdfdnlhoomhaaaMem
import Derived.OpenShut
namespace Go.Proofs.Ytbdfdnlhoomhaaa.Narrow
open Go.RowKit Go.Proofs.Ytbdfdnlhoomhaaa.Wrap
set_option linter.unusedVariables false

def six (a b c d e f : Int) : Value := .tuple #[.int .i8 a, .int .u8 b, .int .i16 c, .int .u16 d, .int .i32 e, .int .u32 f]
theorem six_of {a b c d e f a' b' c' d' e' f' : Int} (ha : a = a') (hb : b = b') (hc : c = c') (hd : d = d') (he : e = e') (hf : f = f') : Ending.returned (.tuple #[.int .i8 a, .int .u8 b, .int .i16 c, .int .u16 d, .int .i32 e, .int .u32 f]) = Ending.returned (.tuple #[.int .i8 a', .int .u8 b', .int .i16 c', .int .u16 d', .int .i32 e', .int .u32 f']) := by
  rw [ha, hb, hc, hd, he, hf]
/-- the six narrow numbers of one -/
structure Six (v a b c d e f : Int) : Prop where
  ha : IntKind.i8.wrap v = a
  hb : v % 256 = b
  hc : IntKind.i16.wrap v = c
  hd : IntKind.u16.wrap v = d
  he : wrap32 v = e
  hf : v % 4294967296 = f
theorem narrow_calls (v a b c d e f : Int) (w : World) (S : Six v a b c d e f) :
    Calls Try.prog 11 #[.int .i64 v] w fun x w' => x = .returned (.tuple #[.int .i8 a, .int .u8 b, .int .i16 c, .int .u16 d, .int .i32 e, .int .u32 f]) ∧ w = w' := by
  go_enter Try.func11, Try.ntmps11
  go_wp2
  refine bodyPost_ret (v := .tuple #[.int .i8 (IntKind.i8.wrap v), .int .u8 (v % 256), .int .i16 (IntKind.i16.wrap v), .int .u16 (IntKind.u16.wrap v), .int .i32 (wrap32 v), .int .u32 (v % 4294967296)]) (by simp [results, Try.results11, go_sem]) rfl ⟨six_of S.ha S.hb S.hc S.hd S.he S.hf, rfl⟩
theorem works_calls (w : World) : Calls Try.prog 23 #[] w fun e w' => e = .returned (.bool true) ∧ w = w' := by
  have f1 : wrap64 (IntKind.u64.wrap (IntKind.u64.wrap (-56) * 72057594037927936)) / 72057594037927936 = -56 := by decide +kernel
  have f2 : wrap64 9223372036854775808 / 72057594037927936 = -128 := by decide +kernel
  have f3 : IntKind.u64.wrap 21617278211378380800 / 72057594037927936 = 44 := by decide +kernel
  have f4 : wrap64 14411518807585587200 / 72057594037927936 = -56 := by decide +kernel
  have f5 : IntKind.u64.wrap (IntKind.u64.wrap (-56) * 72057594037927936) / 72057594037927936 = 200 := by decide +kernel
  have f6 : IntKind.u64.wrap (-1) = 18446744073709551615 := by decide +kernel
  have f7 : Go.bits .or .u32 2147483648 0 = 2147483648 := by decide +kernel
  go_enter Try.func23, Try.ntmps23
  go_wp2_with (first | (go_at_call 11; refine (narrow_calls (-1) (-1) 255 (-1) 65535 (-1) 4294967295 _ ⟨by decide +kernel, by decide +kernel, by decide +kernel, by decide +kernel, by decide +kernel, by decide +kernel⟩).mono ?_; rintro e w' ⟨rfl, rfl⟩) | go_in)
  go_ret
  exact ⟨rfl, rfl⟩

theorem w8 (u b : Int) (w : World) (h : u % 256 = b) (hu : 0 ≤ u ∧ u < 18446744073709551616) : Calls Try.prog 17 #[.int .u64 u, .int .i64 8] w fun e w' => e = .returned (.tuple #[.int .u64 b, .int .i64 0]) ∧ w = w' := by
  subst h; exact wrap8 u w hu.1 hu.2
theorem w16 (u b : Int) (w : World) (h : u % 65536 = b) (hu : 0 ≤ u ∧ u < 18446744073709551616) : Calls Try.prog 17 #[.int .u64 u, .int .i64 16] w fun e w' => e = .returned (.tuple #[.int .u64 b, .int .i64 0]) ∧ w = w' := by
  subst h; exact wrap16 u w hu.1 hu.2
theorem w32 (u b : Int) (w : World) (h : u % 4294967296 = b) (hu : 0 ≤ u ∧ u < 18446744073709551616) : Calls Try.prog 17 #[.int .u64 u, .int .i64 32] w fun e w' => e = .returned (.tuple #[.int .u64 b, .int .i64 0]) ∧ w = w' := by
  subst h; exact wrap32_ u w hu.1 hu.2
set_option maxRecDepth 100000 in
theorem range0 (v a b c d e f : Int) (w : World) (r0 : -9223372036854775808 ≤ v) (r1 : v ≤ -2147483649) (a0 : -128 ≤ a) (a1 : a ≤ 127) (b0 : 0 ≤ b) (b1 : b ≤ 255) (c0 : -32768 ≤ c) (c1 : c ≤ 32767) (d0 : 0 ≤ d) (d1 : d ≤ 65535) (e0 : -2147483648 ≤ e) (e1 : e ≤ 2147483647) (f0 : 0 ≤ f) (f1 : f ≤ 4294967295) (S : Hid (Six v a b c d e f)) (X : Hid (a % 18446744073709551616 % 256 = b)) (Y : Hid (c % 18446744073709551616 % 65536 = d)) (Z : Hid (e % 18446744073709551616 % 4294967296 = f)) :
    Calls Try.prog 9 #[.int .i64 v] w fun e w' => e = .returned (.bool true) ∧ w = w' := by
  go_enter Try.func9, Try.ntmps9
  go_wp2_with (first | (go_at_call 23; refine (works_calls _).mono ?_; rintro e w' ⟨rfl, rfl⟩) | (go_at_call 11; refine (narrow_calls v a b c d e f _ S.out).mono ?_; rintro e w' ⟨rfl, rfl⟩))
  refine (w8 _ b _ ?hx ?hu).mono ?_
  case hx => have := X.out; first | exact this | (simp only [u64_wrap]; exact this) | omega
  case hu => first | omega | (simp only [u64_wrap]; omega)
  rintro e w' ⟨rfl, rfl⟩
  go_wp2_with fail
  refine (w16 _ d _ ?hy ?hv).mono ?_
  case hy => have := Y.out; first | exact this | (simp only [u64_wrap]; exact this) | omega
  case hv => first | omega | (simp only [u64_wrap]; omega)
  rintro e w' ⟨rfl, rfl⟩
  go_wp2_with fail
  refine (w32 _ f _ ?hz ?hw).mono ?_
  case hz => have := Z.out; first | exact this | (simp only [u64_wrap]; exact this) | omega
  case hw => first | omega | (simp only [u64_wrap]; omega)
  rintro e w' ⟨rfl, rfl⟩
  go_wp2
  go_ret
  exact ⟨rfl, rfl⟩

set_option maxRecDepth 100000 in
theorem range1 (v a b c d f : Int) (w : World) (r0 : -2147483648 ≤ v) (r1 : v ≤ -32769) (a0 : -128 ≤ a) (a1 : a ≤ 127) (b0 : 0 ≤ b) (b1 : b ≤ 255) (c0 : -32768 ≤ c) (c1 : c ≤ 32767) (d0 : 0 ≤ d) (d1 : d ≤ 65535) (f0 : 0 ≤ f) (f1 : f ≤ 4294967295) (S : Hid (Six v a b c d v f)) (X : Hid (a % 18446744073709551616 % 256 = b)) (Y : Hid (c % 18446744073709551616 % 65536 = d)) (Z : Hid (v % 18446744073709551616 % 4294967296 = f)) :
    Calls Try.prog 9 #[.int .i64 v] w fun e w' => e = .returned (.bool true) ∧ w = w' := by
  go_enter Try.func9, Try.ntmps9
  go_wp2_with (first | (go_at_call 23; refine (works_calls _).mono ?_; rintro e w' ⟨rfl, rfl⟩) | (go_at_call 11; refine (narrow_calls v a b c d v f _ S.out).mono ?_; rintro e w' ⟨rfl, rfl⟩))
  refine (w8 _ b _ ?hx ?hu).mono ?_
  case hx => have := X.out; first | exact this | (simp only [u64_wrap]; exact this) | omega
  case hu => first | omega | (simp only [u64_wrap]; omega)
  rintro e w' ⟨rfl, rfl⟩
  go_wp2_with fail
  refine (w16 _ d _ ?hy ?hv).mono ?_
  case hy => have := Y.out; first | exact this | (simp only [u64_wrap]; exact this) | omega
  case hv => first | omega | (simp only [u64_wrap]; omega)
  rintro e w' ⟨rfl, rfl⟩
  go_wp2_with fail
  refine (w32 _ f _ ?hz ?hw).mono ?_
  case hz => have := Z.out; first | exact this | (simp only [u64_wrap]; exact this) | omega
  case hw => first | omega | (simp only [u64_wrap]; omega)
  rintro e w' ⟨rfl, rfl⟩
  go_wp2
  go_ret
  exact ⟨rfl, rfl⟩

set_option maxRecDepth 100000 in
theorem range2 (v a b d f : Int) (w : World) (r0 : -32768 ≤ v) (r1 : v ≤ -129) (a0 : -128 ≤ a) (a1 : a ≤ 127) (b0 : 0 ≤ b) (b1 : b ≤ 255) (d0 : 0 ≤ d) (d1 : d ≤ 65535) (f0 : 0 ≤ f) (f1 : f ≤ 4294967295) (S : Hid (Six v a b v d v f)) (X : Hid (a % 18446744073709551616 % 256 = b)) (Y : Hid (v % 18446744073709551616 % 65536 = d)) (Z : Hid (v % 18446744073709551616 % 4294967296 = f)) :
    Calls Try.prog 9 #[.int .i64 v] w fun e w' => e = .returned (.bool true) ∧ w = w' := by
  go_enter Try.func9, Try.ntmps9
  go_wp2_with (first | (go_at_call 23; refine (works_calls _).mono ?_; rintro e w' ⟨rfl, rfl⟩) | (go_at_call 11; refine (narrow_calls v a b v d v f _ S.out).mono ?_; rintro e w' ⟨rfl, rfl⟩))
  refine (w8 _ b _ ?hx ?hu).mono ?_
  case hx => have := X.out; first | exact this | (simp only [u64_wrap]; exact this) | omega
  case hu => first | omega | (simp only [u64_wrap]; omega)
  rintro e w' ⟨rfl, rfl⟩
  go_wp2_with fail
  refine (w16 _ d _ ?hy ?hv).mono ?_
  case hy => have := Y.out; first | exact this | (simp only [u64_wrap]; exact this) | omega
  case hv => first | omega | (simp only [u64_wrap]; omega)
  rintro e w' ⟨rfl, rfl⟩
  go_wp2_with fail
  refine (w32 _ f _ ?hz ?hw).mono ?_
  case hz => have := Z.out; first | exact this | (simp only [u64_wrap]; exact this) | omega
  case hw => first | omega | (simp only [u64_wrap]; omega)
  rintro e w' ⟨rfl, rfl⟩
  go_wp2
  go_ret
  exact ⟨rfl, rfl⟩

set_option maxRecDepth 100000 in
theorem range3 (v b d f : Int) (w : World) (r0 : -128 ≤ v) (r1 : v ≤ -1) (b0 : 0 ≤ b) (b1 : b ≤ 255) (d0 : 0 ≤ d) (d1 : d ≤ 65535) (f0 : 0 ≤ f) (f1 : f ≤ 4294967295) (S : Hid (Six v v b v d v f)) (X : Hid (v % 18446744073709551616 % 256 = b)) (Y : Hid (v % 18446744073709551616 % 65536 = d)) (Z : Hid (v % 18446744073709551616 % 4294967296 = f)) :
    Calls Try.prog 9 #[.int .i64 v] w fun e w' => e = .returned (.bool true) ∧ w = w' := by
  go_enter Try.func9, Try.ntmps9
  go_wp2_with (first | (go_at_call 23; refine (works_calls _).mono ?_; rintro e w' ⟨rfl, rfl⟩) | (go_at_call 11; refine (narrow_calls v v b v d v f _ S.out).mono ?_; rintro e w' ⟨rfl, rfl⟩))
  refine (w8 _ b _ ?hx ?hu).mono ?_
  case hx => have := X.out; first | exact this | (simp only [u64_wrap]; exact this) | omega
  case hu => first | omega | (simp only [u64_wrap]; omega)
  rintro e w' ⟨rfl, rfl⟩
  go_wp2_with fail
  refine (w16 _ d _ ?hy ?hv).mono ?_
  case hy => have := Y.out; first | exact this | (simp only [u64_wrap]; exact this) | omega
  case hv => first | omega | (simp only [u64_wrap]; omega)
  rintro e w' ⟨rfl, rfl⟩
  go_wp2_with fail
  refine (w32 _ f _ ?hz ?hw).mono ?_
  case hz => have := Z.out; first | exact this | (simp only [u64_wrap]; exact this) | omega
  case hw => first | omega | (simp only [u64_wrap]; omega)
  rintro e w' ⟨rfl, rfl⟩
  go_wp2
  go_ret
  exact ⟨rfl, rfl⟩

set_option maxRecDepth 100000 in
theorem range4 (v  : Int) (w : World) (r0 : 0 ≤ v) (r1 : v ≤ 127)  (S : Hid (Six v v v v v v v)) (X : Hid (v % 18446744073709551616 % 256 = v)) (Y : Hid (v % 18446744073709551616 % 65536 = v)) (Z : Hid (v % 18446744073709551616 % 4294967296 = v)) :
    Calls Try.prog 9 #[.int .i64 v] w fun e w' => e = .returned (.bool true) ∧ w = w' := by
  go_enter Try.func9, Try.ntmps9
  go_wp2_with (first | (go_at_call 23; refine (works_calls _).mono ?_; rintro e w' ⟨rfl, rfl⟩) | (go_at_call 11; refine (narrow_calls v v v v v v v _ S.out).mono ?_; rintro e w' ⟨rfl, rfl⟩))
  refine (w8 _ v _ ?hx ?hu).mono ?_
  case hx => have := X.out; first | exact this | (simp only [u64_wrap]; exact this) | omega
  case hu => first | omega | (simp only [u64_wrap]; omega)
  rintro e w' ⟨rfl, rfl⟩
  go_wp2_with fail
  refine (w16 _ v _ ?hy ?hv).mono ?_
  case hy => have := Y.out; first | exact this | (simp only [u64_wrap]; exact this) | omega
  case hv => first | omega | (simp only [u64_wrap]; omega)
  rintro e w' ⟨rfl, rfl⟩
  go_wp2_with fail
  refine (w32 _ v _ ?hz ?hw).mono ?_
  case hz => have := Z.out; first | exact this | (simp only [u64_wrap]; exact this) | omega
  case hw => first | omega | (simp only [u64_wrap]; omega)
  rintro e w' ⟨rfl, rfl⟩
  go_wp2
  go_ret
  exact ⟨rfl, rfl⟩

set_option maxRecDepth 100000 in
theorem range5 (v a : Int) (w : World) (r0 : 128 ≤ v) (r1 : v ≤ 255) (a0 : -128 ≤ a) (a1 : a ≤ 127) (S : Hid (Six v a v v v v v)) (X : Hid (a % 18446744073709551616 % 256 = v)) (Y : Hid (v % 18446744073709551616 % 65536 = v)) (Z : Hid (v % 18446744073709551616 % 4294967296 = v)) :
    Calls Try.prog 9 #[.int .i64 v] w fun e w' => e = .returned (.bool true) ∧ w = w' := by
  go_enter Try.func9, Try.ntmps9
  go_wp2_with (first | (go_at_call 23; refine (works_calls _).mono ?_; rintro e w' ⟨rfl, rfl⟩) | (go_at_call 11; refine (narrow_calls v a v v v v v _ S.out).mono ?_; rintro e w' ⟨rfl, rfl⟩))
  refine (w8 _ v _ ?hx ?hu).mono ?_
  case hx => have := X.out; first | exact this | (simp only [u64_wrap]; exact this) | omega
  case hu => first | omega | (simp only [u64_wrap]; omega)
  rintro e w' ⟨rfl, rfl⟩
  go_wp2_with fail
  refine (w16 _ v _ ?hy ?hv).mono ?_
  case hy => have := Y.out; first | exact this | (simp only [u64_wrap]; exact this) | omega
  case hv => first | omega | (simp only [u64_wrap]; omega)
  rintro e w' ⟨rfl, rfl⟩
  go_wp2_with fail
  refine (w32 _ v _ ?hz ?hw).mono ?_
  case hz => have := Z.out; first | exact this | (simp only [u64_wrap]; exact this) | omega
  case hw => first | omega | (simp only [u64_wrap]; omega)
  rintro e w' ⟨rfl, rfl⟩
  go_wp2
  go_ret
  exact ⟨rfl, rfl⟩

set_option maxRecDepth 100000 in
theorem range6 (v a b : Int) (w : World) (r0 : 256 ≤ v) (r1 : v ≤ 32767) (a0 : -128 ≤ a) (a1 : a ≤ 127) (b0 : 0 ≤ b) (b1 : b ≤ 255) (S : Hid (Six v a b v v v v)) (X : Hid (a % 18446744073709551616 % 256 = b)) (Y : Hid (v % 18446744073709551616 % 65536 = v)) (Z : Hid (v % 18446744073709551616 % 4294967296 = v)) :
    Calls Try.prog 9 #[.int .i64 v] w fun e w' => e = .returned (.bool true) ∧ w = w' := by
  go_enter Try.func9, Try.ntmps9
  go_wp2_with (first | (go_at_call 23; refine (works_calls _).mono ?_; rintro e w' ⟨rfl, rfl⟩) | (go_at_call 11; refine (narrow_calls v a b v v v v _ S.out).mono ?_; rintro e w' ⟨rfl, rfl⟩))
  refine (w8 _ b _ ?hx ?hu).mono ?_
  case hx => have := X.out; first | exact this | (simp only [u64_wrap]; exact this) | omega
  case hu => first | omega | (simp only [u64_wrap]; omega)
  rintro e w' ⟨rfl, rfl⟩
  go_wp2_with fail
  refine (w16 _ v _ ?hy ?hv).mono ?_
  case hy => have := Y.out; first | exact this | (simp only [u64_wrap]; exact this) | omega
  case hv => first | omega | (simp only [u64_wrap]; omega)
  rintro e w' ⟨rfl, rfl⟩
  go_wp2_with fail
  refine (w32 _ v _ ?hz ?hw).mono ?_
  case hz => have := Z.out; first | exact this | (simp only [u64_wrap]; exact this) | omega
  case hw => first | omega | (simp only [u64_wrap]; omega)
  rintro e w' ⟨rfl, rfl⟩
  go_wp2
  go_ret
  exact ⟨rfl, rfl⟩

set_option maxRecDepth 100000 in
theorem range7 (v a b c : Int) (w : World) (r0 : 32768 ≤ v) (r1 : v ≤ 65535) (a0 : -128 ≤ a) (a1 : a ≤ 127) (b0 : 0 ≤ b) (b1 : b ≤ 255) (c0 : -32768 ≤ c) (c1 : c ≤ 32767) (S : Hid (Six v a b c v v v)) (X : Hid (a % 18446744073709551616 % 256 = b)) (Y : Hid (c % 18446744073709551616 % 65536 = v)) (Z : Hid (v % 18446744073709551616 % 4294967296 = v)) :
    Calls Try.prog 9 #[.int .i64 v] w fun e w' => e = .returned (.bool true) ∧ w = w' := by
  go_enter Try.func9, Try.ntmps9
  go_wp2_with (first | (go_at_call 23; refine (works_calls _).mono ?_; rintro e w' ⟨rfl, rfl⟩) | (go_at_call 11; refine (narrow_calls v a b c v v v _ S.out).mono ?_; rintro e w' ⟨rfl, rfl⟩))
  refine (w8 _ b _ ?hx ?hu).mono ?_
  case hx => have := X.out; first | exact this | (simp only [u64_wrap]; exact this) | omega
  case hu => first | omega | (simp only [u64_wrap]; omega)
  rintro e w' ⟨rfl, rfl⟩
  go_wp2_with fail
  refine (w16 _ v _ ?hy ?hv).mono ?_
  case hy => have := Y.out; first | exact this | (simp only [u64_wrap]; exact this) | omega
  case hv => first | omega | (simp only [u64_wrap]; omega)
  rintro e w' ⟨rfl, rfl⟩
  go_wp2_with fail
  refine (w32 _ v _ ?hz ?hw).mono ?_
  case hz => have := Z.out; first | exact this | (simp only [u64_wrap]; exact this) | omega
  case hw => first | omega | (simp only [u64_wrap]; omega)
  rintro e w' ⟨rfl, rfl⟩
  go_wp2
  go_ret
  exact ⟨rfl, rfl⟩

set_option maxRecDepth 100000 in
theorem range8 (v a b c d : Int) (w : World) (r0 : 65536 ≤ v) (r1 : v ≤ 2147483647) (a0 : -128 ≤ a) (a1 : a ≤ 127) (b0 : 0 ≤ b) (b1 : b ≤ 255) (c0 : -32768 ≤ c) (c1 : c ≤ 32767) (d0 : 0 ≤ d) (d1 : d ≤ 65535) (S : Hid (Six v a b c d v v)) (X : Hid (a % 18446744073709551616 % 256 = b)) (Y : Hid (c % 18446744073709551616 % 65536 = d)) (Z : Hid (v % 18446744073709551616 % 4294967296 = v)) :
    Calls Try.prog 9 #[.int .i64 v] w fun e w' => e = .returned (.bool true) ∧ w = w' := by
  go_enter Try.func9, Try.ntmps9
  go_wp2_with (first | (go_at_call 23; refine (works_calls _).mono ?_; rintro e w' ⟨rfl, rfl⟩) | (go_at_call 11; refine (narrow_calls v a b c d v v _ S.out).mono ?_; rintro e w' ⟨rfl, rfl⟩))
  refine (w8 _ b _ ?hx ?hu).mono ?_
  case hx => have := X.out; first | exact this | (simp only [u64_wrap]; exact this) | omega
  case hu => first | omega | (simp only [u64_wrap]; omega)
  rintro e w' ⟨rfl, rfl⟩
  go_wp2_with fail
  refine (w16 _ d _ ?hy ?hv).mono ?_
  case hy => have := Y.out; first | exact this | (simp only [u64_wrap]; exact this) | omega
  case hv => first | omega | (simp only [u64_wrap]; omega)
  rintro e w' ⟨rfl, rfl⟩
  go_wp2_with fail
  refine (w32 _ v _ ?hz ?hw).mono ?_
  case hz => have := Z.out; first | exact this | (simp only [u64_wrap]; exact this) | omega
  case hw => first | omega | (simp only [u64_wrap]; omega)
  rintro e w' ⟨rfl, rfl⟩
  go_wp2
  go_ret
  exact ⟨rfl, rfl⟩

set_option maxRecDepth 100000 in
theorem range9 (v a b c d e : Int) (w : World) (r0 : 2147483648 ≤ v) (r1 : v ≤ 4294967295) (a0 : -128 ≤ a) (a1 : a ≤ 127) (b0 : 0 ≤ b) (b1 : b ≤ 255) (c0 : -32768 ≤ c) (c1 : c ≤ 32767) (d0 : 0 ≤ d) (d1 : d ≤ 65535) (e0 : -2147483648 ≤ e) (e1 : e ≤ 2147483647) (S : Hid (Six v a b c d e v)) (X : Hid (a % 18446744073709551616 % 256 = b)) (Y : Hid (c % 18446744073709551616 % 65536 = d)) (Z : Hid (e % 18446744073709551616 % 4294967296 = v)) :
    Calls Try.prog 9 #[.int .i64 v] w fun e w' => e = .returned (.bool true) ∧ w = w' := by
  go_enter Try.func9, Try.ntmps9
  go_wp2_with (first | (go_at_call 23; refine (works_calls _).mono ?_; rintro e w' ⟨rfl, rfl⟩) | (go_at_call 11; refine (narrow_calls v a b c d e v _ S.out).mono ?_; rintro e w' ⟨rfl, rfl⟩))
  refine (w8 _ b _ ?hx ?hu).mono ?_
  case hx => have := X.out; first | exact this | (simp only [u64_wrap]; exact this) | omega
  case hu => first | omega | (simp only [u64_wrap]; omega)
  rintro e w' ⟨rfl, rfl⟩
  go_wp2_with fail
  refine (w16 _ d _ ?hy ?hv).mono ?_
  case hy => have := Y.out; first | exact this | (simp only [u64_wrap]; exact this) | omega
  case hv => first | omega | (simp only [u64_wrap]; omega)
  rintro e w' ⟨rfl, rfl⟩
  go_wp2_with fail
  refine (w32 _ v _ ?hz ?hw).mono ?_
  case hz => have := Z.out; first | exact this | (simp only [u64_wrap]; exact this) | omega
  case hw => first | omega | (simp only [u64_wrap]; omega)
  rintro e w' ⟨rfl, rfl⟩
  go_wp2
  go_ret
  exact ⟨rfl, rfl⟩

set_option maxRecDepth 100000 in
theorem range10 (v a b c d e f : Int) (w : World) (r0 : 4294967296 ≤ v) (r1 : v ≤ 9223372036854775807) (a0 : -128 ≤ a) (a1 : a ≤ 127) (b0 : 0 ≤ b) (b1 : b ≤ 255) (c0 : -32768 ≤ c) (c1 : c ≤ 32767) (d0 : 0 ≤ d) (d1 : d ≤ 65535) (e0 : -2147483648 ≤ e) (e1 : e ≤ 2147483647) (f0 : 0 ≤ f) (f1 : f ≤ 4294967295) (S : Hid (Six v a b c d e f)) (X : Hid (a % 18446744073709551616 % 256 = b)) (Y : Hid (c % 18446744073709551616 % 65536 = d)) (Z : Hid (e % 18446744073709551616 % 4294967296 = f)) :
    Calls Try.prog 9 #[.int .i64 v] w fun e w' => e = .returned (.bool true) ∧ w = w' := by
  go_enter Try.func9, Try.ntmps9
  go_wp2_with (first | (go_at_call 23; refine (works_calls _).mono ?_; rintro e w' ⟨rfl, rfl⟩) | (go_at_call 11; refine (narrow_calls v a b c d e f _ S.out).mono ?_; rintro e w' ⟨rfl, rfl⟩))
  refine (w8 _ b _ ?hx ?hu).mono ?_
  case hx => have := X.out; first | exact this | (simp only [u64_wrap]; exact this) | omega
  case hu => first | omega | (simp only [u64_wrap]; omega)
  rintro e w' ⟨rfl, rfl⟩
  go_wp2_with fail
  refine (w16 _ d _ ?hy ?hv).mono ?_
  case hy => have := Y.out; first | exact this | (simp only [u64_wrap]; exact this) | omega
  case hv => first | omega | (simp only [u64_wrap]; omega)
  rintro e w' ⟨rfl, rfl⟩
  go_wp2_with fail
  refine (w32 _ f _ ?hz ?hw).mono ?_
  case hz => have := Z.out; first | exact this | (simp only [u64_wrap]; exact this) | omega
  case hw => first | omega | (simp only [u64_wrap]; omega)
  rintro e w' ⟨rfl, rfl⟩
  go_wp2
  go_ret
  exact ⟨rfl, rfl⟩

theorem six_in (v : Int) : Six v (IntKind.i8.wrap v) (v % 256) (IntKind.i16.wrap v) (IntKind.u16.wrap v) (wrap32 v) (v % 4294967296) := ⟨rfl, rfl, rfl, rfl, rfl, rfl⟩
set_option maxHeartbeats 4000000 in
theorem narrow_walk (v : Int) (w : World) (hv : (Lit.int .i64 v).wf = true) :
    Calls Try.prog 9 #[.int .i64 v] w fun e w' => e = .returned (.bool true) ∧ Below w.heap.size w w' := by
  obtain ⟨v0, v1⟩ := bounds_i64 hv
  have core : Calls Try.prog 9 #[.int .i64 v] w fun e w' => e = .returned (.bool true) ∧ w = w' := by
    have S := six_in v
    have ea := Base.i8_wrap v
    have ec := Base.i16_wrap v
    have ed := Base.u16_wrap v
    have ee : wrap32 v = (v + 2147483648) % 4294967296 - 2147483648 := by unfold wrap32; omega
    have A0 : -128 ≤ IntKind.i8.wrap v ∧ IntKind.i8.wrap v ≤ 127 := by omega
    have C0 : -32768 ≤ IntKind.i16.wrap v ∧ IntKind.i16.wrap v ≤ 32767 := by omega
    have D0 : 0 ≤ IntKind.u16.wrap v ∧ IntKind.u16.wrap v ≤ 65535 := by omega
    have E0 : -2147483648 ≤ wrap32 v ∧ wrap32 v ≤ 2147483647 := by omega
    have B0 : 0 ≤ v % 256 ∧ v % 256 ≤ 255 := by omega
    have F0 : 0 ≤ v % 4294967296 ∧ v % 4294967296 ≤ 4294967295 := by omega
    have X : IntKind.i8.wrap v % 18446744073709551616 % 256 = v % 256 := by omega
    have Y : IntKind.i16.wrap v % 18446744073709551616 % 65536 = IntKind.u16.wrap v := by omega
    have Z : wrap32 v % 18446744073709551616 % 4294967296 = v % 4294967296 := by omega
    by_cases r0 : -9223372036854775808 ≤ v ∧ v ≤ -2147483649
    · exact range0 v (IntKind.i8.wrap v) (v % 256) (IntKind.i16.wrap v) (IntKind.u16.wrap v) (wrap32 v) (v % 4294967296) w r0.1 r0.2 A0.1 A0.2 B0.1 B0.2 C0.1 C0.2 D0.1 D0.2 E0.1 E0.2 F0.1 F0.2 S X Y Z
    by_cases r1 : -2147483648 ≤ v ∧ v ≤ -32769
    · have ee1 : wrap32 v = v := by omega
      try rw [ee1] at S
      try rw [ee1] at X
      try rw [ee1] at Y
      try rw [ee1] at Z
      exact range1 v (IntKind.i8.wrap v) (v % 256) (IntKind.i16.wrap v) (IntKind.u16.wrap v) (v % 4294967296) w r1.1 r1.2 A0.1 A0.2 B0.1 B0.2 C0.1 C0.2 D0.1 D0.2 F0.1 F0.2 S X Y Z
    by_cases r2 : -32768 ≤ v ∧ v ≤ -129
    · have ec2 : IntKind.i16.wrap v = v := by omega
      have ee2 : wrap32 v = v := by omega
      try rw [ec2] at S
      try rw [ec2] at X
      try rw [ec2] at Y
      try rw [ec2] at Z
      try rw [ee2] at S
      try rw [ee2] at X
      try rw [ee2] at Y
      try rw [ee2] at Z
      exact range2 v (IntKind.i8.wrap v) (v % 256) (IntKind.u16.wrap v) (v % 4294967296) w r2.1 r2.2 A0.1 A0.2 B0.1 B0.2 D0.1 D0.2 F0.1 F0.2 S X Y Z
    by_cases r3 : -128 ≤ v ∧ v ≤ -1
    · have ea3 : IntKind.i8.wrap v = v := by omega
      have ec3 : IntKind.i16.wrap v = v := by omega
      have ee3 : wrap32 v = v := by omega
      try rw [ea3] at S
      try rw [ea3] at X
      try rw [ea3] at Y
      try rw [ea3] at Z
      try rw [ec3] at S
      try rw [ec3] at X
      try rw [ec3] at Y
      try rw [ec3] at Z
      try rw [ee3] at S
      try rw [ee3] at X
      try rw [ee3] at Y
      try rw [ee3] at Z
      exact range3 v (v % 256) (IntKind.u16.wrap v) (v % 4294967296) w r3.1 r3.2 B0.1 B0.2 D0.1 D0.2 F0.1 F0.2 S X Y Z
    by_cases r4 : 0 ≤ v ∧ v ≤ 127
    · have ea4 : IntKind.i8.wrap v = v := by omega
      have eb4 : v % 256 = v := by omega
      have ec4 : IntKind.i16.wrap v = v := by omega
      have ed4 : IntKind.u16.wrap v = v := by omega
      have ee4 : wrap32 v = v := by omega
      have ef4 : v % 4294967296 = v := by omega
      try rw [ea4] at S
      try rw [ea4] at X
      try rw [ea4] at Y
      try rw [ea4] at Z
      try rw [eb4] at S
      try rw [eb4] at X
      try rw [eb4] at Y
      try rw [eb4] at Z
      try rw [ec4] at S
      try rw [ec4] at X
      try rw [ec4] at Y
      try rw [ec4] at Z
      try rw [ed4] at S
      try rw [ed4] at X
      try rw [ed4] at Y
      try rw [ed4] at Z
      try rw [ee4] at S
      try rw [ee4] at X
      try rw [ee4] at Y
      try rw [ee4] at Z
      try rw [ef4] at S
      try rw [ef4] at X
      try rw [ef4] at Y
      try rw [ef4] at Z
      exact range4 v  w r4.1 r4.2  S X Y Z
    by_cases r5 : 128 ≤ v ∧ v ≤ 255
    · have eb5 : v % 256 = v := by omega
      have ec5 : IntKind.i16.wrap v = v := by omega
      have ed5 : IntKind.u16.wrap v = v := by omega
      have ee5 : wrap32 v = v := by omega
      have ef5 : v % 4294967296 = v := by omega
      try rw [eb5] at S
      try rw [eb5] at X
      try rw [eb5] at Y
      try rw [eb5] at Z
      try rw [ec5] at S
      try rw [ec5] at X
      try rw [ec5] at Y
      try rw [ec5] at Z
      try rw [ed5] at S
      try rw [ed5] at X
      try rw [ed5] at Y
      try rw [ed5] at Z
      try rw [ee5] at S
      try rw [ee5] at X
      try rw [ee5] at Y
      try rw [ee5] at Z
      try rw [ef5] at S
      try rw [ef5] at X
      try rw [ef5] at Y
      try rw [ef5] at Z
      exact range5 v (IntKind.i8.wrap v) w r5.1 r5.2 A0.1 A0.2 S X Y Z
    by_cases r6 : 256 ≤ v ∧ v ≤ 32767
    · have ec6 : IntKind.i16.wrap v = v := by omega
      have ed6 : IntKind.u16.wrap v = v := by omega
      have ee6 : wrap32 v = v := by omega
      have ef6 : v % 4294967296 = v := by omega
      try rw [ec6] at S
      try rw [ec6] at X
      try rw [ec6] at Y
      try rw [ec6] at Z
      try rw [ed6] at S
      try rw [ed6] at X
      try rw [ed6] at Y
      try rw [ed6] at Z
      try rw [ee6] at S
      try rw [ee6] at X
      try rw [ee6] at Y
      try rw [ee6] at Z
      try rw [ef6] at S
      try rw [ef6] at X
      try rw [ef6] at Y
      try rw [ef6] at Z
      exact range6 v (IntKind.i8.wrap v) (v % 256) w r6.1 r6.2 A0.1 A0.2 B0.1 B0.2 S X Y Z
    by_cases r7 : 32768 ≤ v ∧ v ≤ 65535
    · have ed7 : IntKind.u16.wrap v = v := by omega
      have ee7 : wrap32 v = v := by omega
      have ef7 : v % 4294967296 = v := by omega
      try rw [ed7] at S
      try rw [ed7] at X
      try rw [ed7] at Y
      try rw [ed7] at Z
      try rw [ee7] at S
      try rw [ee7] at X
      try rw [ee7] at Y
      try rw [ee7] at Z
      try rw [ef7] at S
      try rw [ef7] at X
      try rw [ef7] at Y
      try rw [ef7] at Z
      exact range7 v (IntKind.i8.wrap v) (v % 256) (IntKind.i16.wrap v) w r7.1 r7.2 A0.1 A0.2 B0.1 B0.2 C0.1 C0.2 S X Y Z
    by_cases r8 : 65536 ≤ v ∧ v ≤ 2147483647
    · have ee8 : wrap32 v = v := by omega
      have ef8 : v % 4294967296 = v := by omega
      try rw [ee8] at S
      try rw [ee8] at X
      try rw [ee8] at Y
      try rw [ee8] at Z
      try rw [ef8] at S
      try rw [ef8] at X
      try rw [ef8] at Y
      try rw [ef8] at Z
      exact range8 v (IntKind.i8.wrap v) (v % 256) (IntKind.i16.wrap v) (IntKind.u16.wrap v) w r8.1 r8.2 A0.1 A0.2 B0.1 B0.2 C0.1 C0.2 D0.1 D0.2 S X Y Z
    by_cases r9 : 2147483648 ≤ v ∧ v ≤ 4294967295
    · have ef9 : v % 4294967296 = v := by omega
      try rw [ef9] at S
      try rw [ef9] at X
      try rw [ef9] at Y
      try rw [ef9] at Z
      exact range9 v (IntKind.i8.wrap v) (v % 256) (IntKind.i16.wrap v) (IntKind.u16.wrap v) (wrap32 v) w r9.1 r9.2 A0.1 A0.2 B0.1 B0.2 C0.1 C0.2 D0.1 D0.2 E0.1 E0.2 S X Y Z
    by_cases r10 : 4294967296 ≤ v ∧ v ≤ 9223372036854775807
    · exact range10 v (IntKind.i8.wrap v) (v % 256) (IntKind.i16.wrap v) (IntKind.u16.wrap v) (wrap32 v) (v % 4294967296) w r10.1 r10.2 A0.1 A0.2 B0.1 B0.2 C0.1 C0.2 D0.1 D0.2 E0.1 E0.2 F0.1 F0.2 S X Y Z
    omega
  exact core.mono fun e w' ⟨he, hw⟩ => ⟨he, hw ▸ Below.refl _ _⟩

end Go.Proofs.Ytbdfdnlhoomhaaa.Narrow
