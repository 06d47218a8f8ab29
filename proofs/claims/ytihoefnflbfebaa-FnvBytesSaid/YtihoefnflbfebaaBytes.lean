/- The walk of the law FnvBytes: a byte more changes the number as the rule says. For texts up to 5000 bytes, as the statement says. -/
import Derived.Test.YtihoefnflbfebaaPFnvBytesx1
import Derived.Test.YtihoefnflbfebaaBase
import Derived.Lib.Hide
import Derived.RegionCalls
import Derived.WalkLawsBesides
namespace Go.Proofs.Ytihoefnflbfebaa.Bytes
open Go.RowKit Go.Proofs.Ytihoefnflbfebaa.PFnvBytes Go.Proofs.YtihoefnflbfebaaW.PrintWords Go.Proofs.YtihoefnflbfebaaW.PrintLast Go.Proofs.YtihoefnflbfebaaW.PrintMore Go.Proofs.Ytihoefnflbfebaa.Base
set_option linter.unusedVariables false
/-- the number of the d bytes from i on, behind a number -/
def fm (s : ByteArray) : Nat → Nat → Int → Int
  | _, 0, x => x
  | i, d + 1, x => fm s (i + 1) d (stp x (bt s i))
theorem more_l0 (s : ByteArray) (hs : s.size ≤ 140737488351232) (d : Nat) : ∀ (k i : Nat) (x : Int), i + d = s.size → d < k →
    fnv_More.l0 k x s (s.size : Int) (i : Int) = some (fm s i d x) := by
  induction d with
  | zero =>
    intro k i x h hk
    obtain ⟨k, rfl⟩ : ∃ m, k = m + 1 := ⟨k - 1, by omega⟩
    simp only [fnv_More.l0]; rw [if_neg (by omega)]; rfl
  | succ d ih =>
    intro k i x h hk
    obtain ⟨k, rfl⟩ : ∃ m, k = m + 1 := ⟨k - 1, by omega⟩
    simp only [fnv_More.l0]; rw [if_pos (by omega), if_pos (by omega), if_pos (by omega), wrap1 (by omega)]
    exact ih k (i + 1) _ (by omega) (by omega)
theorem more_f (s : ByteArray) (hs : s.size ≤ 140737488351232) (k : Nat) (hk : s.size < k) (x : Int) : fnv_More.f k x s = some (fm s 0 s.size x) := by
  unfold fnv_More.f
  exact more_l0 s hs s.size k 0 x (by omega) hk
theorem sum_f (s : ByteArray) (hs : s.size ≤ 140737488351232) (k : Nat) (hk : s.size < k) : fnv_Sum.f k s = some (fm s 0 s.size 2166136261) := by
  unfold fnv_Sum.f
  rw [more_f s hs k hk]; rfl
theorem fm_range (s : ByteArray) (d : Nat) : ∀ (i : Nat) (x : Int), 0 ≤ x → x < 4294967296 → 0 ≤ fm s i d x ∧ fm s i d x < 4294967296 := by
  induction d with
  | zero => intro i x h0 h1; exact ⟨h0, h1⟩
  | succ d ih => intro i x h0 h1; exact ih _ _ (stp_range _ _).1 (stp_range _ _).2
/-- are the d bytes from i on all of a key's? -/
def kb (s : ByteArray) : Nat → Nat → Bool
  | _, 0 => true
  | i, d + 1 => (decide (33 ≤ bt s i) && decide (bt s i ≤ 126)) && kb s (i + 1) d
theorem key_l0 (s : ByteArray) (hs : s.size ≤ 140737488351232) (d : Nat) : ∀ (k i : Nat), i + d = s.size → d < k →
    fnv_Key.l0 k s (s.size : Int) (i : Int) = some (kb s i d) := by
  induction d with
  | zero =>
    intro k i h hk
    obtain ⟨k, rfl⟩ : ∃ m, k = m + 1 := ⟨k - 1, by omega⟩
    simp only [fnv_Key.l0]; rw [if_neg (by omega)]; rfl
  | succ d ih =>
    intro k i h hk
    obtain ⟨k, rfl⟩ : ∃ m, k = m + 1 := ⟨k - 1, by omega⟩
    simp only [fnv_Key.l0]; rw [if_pos (by omega), if_pos (by omega), if_pos (by omega), wrap1 (by omega)]
    by_cases h1 : bt s i < 33
    · rw [if_pos h1]; simp only [kb]; rw [decide_eq_false (by omega)]; rfl
    · rw [if_neg h1]
      by_cases h2 : bt s i > 126
      · rw [if_pos h2]; simp only [kb]; rw [decide_eq_true (by omega), decide_eq_false (by omega)]; rfl
      · rw [if_neg h2, ih k (i + 1) (by omega) (by omega)]; simp only [kb]; rw [decide_eq_true (by omega), decide_eq_true (by omega)]; rfl
theorem toList_nil (s : ByteArray) : s.toList = ([] : List UInt8) ↔ s.size = 0 := by
  rw [ByteArray.toList_eq]
  constructor
  · intro h
    have := congrArg List.length h
    simpa using this
  · intro h
    apply List.eq_nil_of_length_eq_zero
    simpa using h
def keyB (s : ByteArray) : Bool := decide (1 ≤ s.size) && decide (s.size ≤ 32) && kb s 0 s.size
theorem key_f (s : ByteArray) (hs : s.size ≤ 140737488351232) (k : Nat) (hk : s.size + 1 < k) : fnv_Key.f k s = some (keyB s) := by
  obtain ⟨k, rfl⟩ : ∃ m, k = m + 1 := ⟨k - 1, by omega⟩
  unfold fnv_Key.f keyB
  by_cases h0 : s.size = 0
  · rw [if_pos ((toList_nil s).2 h0), decide_eq_false (show ¬ 1 ≤ s.size by omega)]; rfl
  · rw [if_neg (fun h => h0 ((toList_nil s).1 h)), decide_eq_true (show 1 ≤ s.size by omega)]
    by_cases h1 : s.size ≤ 32
    · rw [decide_eq_true h1, decide_eq_false (show ¬ ((s.size : Int) > 32) by omega)]
      simp only [fnv_Key.j0]
      rw [if_neg (by decide)]
      exact key_l0 s hs s.size k 0 (by omega) (by omega)
    · rw [decide_eq_false h1, decide_eq_true (show ((s.size : Int) > 32) by omega)]; rfl
theorem works_f (k : Nat) (hk : 10 < k) : tallboylaw04_works.f k = some true := by
  have k1 : keyB (⟨#[107, 101, 121]⟩ : ByteArray) = true := by decide +kernel
  have k2 : keyB (⟨#[97, 32, 98]⟩ : ByteArray) = false := by decide +kernel
  have k3 : keyB (⟨#[]⟩ : ByteArray) = false := by decide +kernel
  have s1 : fm (⟨#[]⟩ : ByteArray) 0 (⟨#[]⟩ : ByteArray).size 2166136261 = 2166136261 := by decide +kernel
  have s2 : fm (⟨#[97]⟩ : ByteArray) 0 (⟨#[97]⟩ : ByteArray).size 2166136261 = 3826002220 := by decide +kernel
  have b1 : fnv_Bucket.f 13 8 = some (5, 0) := by decide +kernel
  have b2 : fnv_Bucket.f 13 12 = some (0, 1) := by decide +kernel
  have t1 : fnv_Stripe.f 327680 = some 1 := by decide +kernel
  unfold tallboylaw04_works.f
  rw [b1, b2, t1, sum_f _ (by decide) k (by simp [ByteArray.size]; omega), sum_f _ (by decide) k (by simp [ByteArray.size]; omega), key_f _ (by decide) k (by simp [ByteArray.size]; omega), key_f _ (by decide) k (by simp [ByteArray.size]; omega), key_f _ (by decide) k (by simp [ByteArray.size]; omega), k1, k2, k3, s1, s2]
  rfl
def num (s : ByteArray) : Int := fm s 0 s.size 2166136261
theorem sum_any (s : ByteArray) (hs : s.size ≤ 140737488351232) (w : World) : Calls Try.prog 14 #[.string s] w fun e w' => e = .returned (.int .u32 (num s)) ∧ Drawn0 w w' :=
  fnv_Sum.calls (s.size + 1) s (num s) w (sum_f s hs _ (by omega))
theorem works_any (w : World) : Calls Try.prog 20 #[] w fun e w' => e = .returned (.bool true) ∧ Drawn0 w w' :=
  tallboylaw04_works.calls 11 true w (works_f 11 (by decide))
theorem conv_one (W : World) (g : Nat) (x : Int) (hc : W.cell? ⟨g, 0, none⟩ = some (.int .u8 x)) : (Go.convert 36 9 (.slice (some ⟨g, 0, none⟩) 1 1)).run Try.prog W = .ok (.string (strOfNums [x])) W := by
  refine string_of_reads (e := 5) Try.underlying36 Try.underlying5 Try.underlying9 ⟨rfl, by decide, fun _ => ⟨_, rfl, fun j hj => ?_⟩⟩
  obtain rfl : j = 0 := by omega
  exact hc
theorem below_here (w : World) (n : Nat) : Below w.heap.size w (w.drewN n) := pw_below_drewN (Below.refl _ _) n
theorem cl (W : World) (x : Int) (g : Nat) (hg : W.heap.size = g) : (W.alloc (.cells #[.int .u8 x] 5)).cell? ⟨g, 0, none⟩ = some (.int .u8 x) := by
  subst hg
  have h := cell_of_row (W.alloc (.cells #[.int .u8 x] 5)) W.heap.size 0 #[.int .u8 x] 5 (0, 0) (heap_alloc_new W _)
  rw [h]; rfl
theorem cb (W : World) (o : Obj) (g : Nat) (v : Value) (h : W.cell? ⟨g, 0, none⟩ = some v) : (W.alloc o).cell? ⟨g, 0, none⟩ = some v :=
  (World.cell?_alloc_lt W o _ (World.block_lt_of_cell? W _ h)).trans h
theorem fm_app (s : ByteArray) (c d : Nat) : ∀ (i : Nat) (x : Int), fm s i (c + d) x = fm s (i + c) d (fm s i c x) := by
  induction c with
  | zero => intro i x; simp [fm]
  | succ c ih =>
    intro i x
    have e : c + 1 + d = (c + d) + 1 := by omega
    rw [e]; simp only [fm]; rw [ih]
    have e2 : i + 1 + c = i + (c + 1) := by omega
    rw [e2]
theorem fm_same (s t : ByteArray) (d : Nat) : ∀ (i j : Nat) (x : Int), (∀ m, m < d → bt s ((i + m : Nat) : Int) = bt t ((j + m : Nat) : Int)) → fm s i d x = fm t j d x := by
  induction d with
  | zero => intro i j x h; rfl
  | succ d ih =>
    intro i j x h
    have h0 := h 0 (by omega)
    simp only [Nat.add_zero] at h0
    simp only [fm]; rw [h0]
    refine ih _ _ _ fun m hm => ?_
    have := h (m + 1) (by omega)
    have e1 : i + (m + 1) = i + 1 + m := by omega
    have e2 : j + (m + 1) = j + 1 + m := by omega
    rw [e1, e2] at this
    exact this
theorem bt_left (a b : ByteArray) (m : Nat) (h : m < a.size) : bt (a ++ b) (m : Int) = bt a (m : Int) := by
  unfold bt
  have e : ((m : Nat) : Int).toNat = m := by omega
  rw [dif_pos (by rw [ByteArray.size_append]; omega), dif_pos (by omega)]
  simp only [e]
  rw [ByteArray.getElem_append_left h]
theorem bt_right (a b : ByteArray) (m : Nat) (h : m < b.size) : bt (a ++ b) ((a.size + m : Nat) : Int) = bt b (m : Int) := by
  unfold bt
  have e : ((a.size + m : Nat) : Int).toNat = a.size + m := by omega
  have e' : ((m : Nat) : Int).toNat = m := by omega
  rw [dif_pos (by rw [ByteArray.size_append]; omega), dif_pos (by omega)]
  simp only [e, e']
  rw [ByteArray.getElem_append_right (by omega)]
  simp
theorem fm_two (a b : ByteArray) (x : Int) : fm (a ++ b) 0 (a ++ b).size x = fm b 0 b.size (fm a 0 a.size x) := by
  rw [ByteArray.size_append, fm_app, Nat.zero_add, fm_same (a ++ b) a a.size 0 0 x (fun m hm => by rw [Nat.zero_add]; exact bt_left a b m hm)]
  exact fm_same (a ++ b) b b.size a.size 0 _ (fun m hm => by rw [Nat.zero_add]; exact bt_right a b m hm)

theorem num_byte (s : ByteArray) (x : Int) (h0 : 0 ≤ x) (h1 : x ≤ 255) : num (s ++ strOfNums [x]) = stp (num s) x := by
  unfold num
  rw [fm_two]
  have e1 : (strOfNums [x]).size = 1 := rfl
  rw [e1]
  simp only [fm]
  have e2 : bt (strOfNums [x]) ((0 : Nat) : Int) = x := by
    unfold bt
    rw [dif_pos (by rw [e1]; decide)]
    show (((UInt8.ofNat x.toNat).toNat : Nat) : Int) = x
    rw [UInt8.toNat_ofNat', Nat.mod_eq_of_lt (by omega)]
    omega
  rw [e2]
theorem xor_inj (n a b : Int) (ha0 : 0 ≤ a) (ha1 : a ≤ 255) (hb0 : 0 ≤ b) (hb1 : b ≤ 255) (h : Go.bits .xor .u32 n a = Go.bits .xor .u32 n b) : a = b := by
  unfold Go.bits at h
  simp only [IntKind.wrap_u32] at h
  have bd : ∀ x : BitVec 32, ((x.toNat : Nat) : Int) % 4294967296 = x.toNat := fun x => by
    have := x.isLt
    omega
  have h2 : (BitVec.ofInt 32 n ^^^ BitVec.ofInt 32 a).toNat = (BitVec.ofInt 32 n ^^^ BitVec.ofInt 32 b).toNat := by
    have e1 := bd (BitVec.ofInt 32 n ^^^ BitVec.ofInt 32 a)
    have e2 := bd (BitVec.ofInt 32 n ^^^ BitVec.ofInt 32 b)
    have h' : ((BitVec.ofInt 32 n ^^^ BitVec.ofInt 32 a).toNat : Int) % 4294967296 = ((BitVec.ofInt 32 n ^^^ BitVec.ofInt 32 b).toNat : Int) % 4294967296 := h
    omega
  have h3 := BitVec.eq_of_toNat_eq h2
  have h4 : BitVec.ofInt 32 a = BitVec.ofInt 32 b := by
    have := congrArg (fun z => BitVec.ofInt 32 n ^^^ z) h3
    simpa [← BitVec.xor_assoc] using this
  obtain ⟨x, rfl⟩ := Int.eq_ofNat_of_zero_le ha0
  obtain ⟨y, rfl⟩ := Int.eq_ofNat_of_zero_le hb0
  have h5 := congrArg BitVec.toNat h4
  simp only [BitVec.ofInt_natCast, BitVec.toNat_ofNat] at h5
  rw [Nat.mod_eq_of_lt (by omega), Nat.mod_eq_of_lt (by omega)] at h5
  omega
theorem inv1 (d k : Int) (e0 : d * 16777619 = 4294967296 * k) : d * (16777619 * 899433627) = 4294967296 * k * 899433627 := by rw [← e0, Int.mul_assoc]
theorem inv2 : (16777619 : Int) * 899433627 = 1 + 4294967296 * 3513497 := by decide
theorem inv3 (d k : Int) (e0 : d * 16777619 = 4294967296 * k) : ∃ t, d = 4294967296 * t := by
  have e := inv1 d k e0
  rw [inv2, Int.mul_add, Int.mul_one] at e
  refine ⟨k * 899433627 - d * 3513497, ?_⟩
  rw [Int.mul_sub, ← Int.mul_assoc]
  have e3 : d * (4294967296 * 3513497) = 4294967296 * (d * 3513497) := by rw [← Int.mul_assoc, Int.mul_comm d, Int.mul_assoc]
  rw [e3] at e
  generalize 4294967296 * (d * 3513497) = B at e ⊢
  generalize 4294967296 * k * 899433627 = C at e
  omega
theorem inv_step (p q k : Int) (hk : p * 16777619 - q * 16777619 = 4294967296 * k) (r1 : 0 ≤ p ∧ p < 4294967296) (r2 : 0 ≤ q ∧ q < 4294967296) : p = q := by
  obtain ⟨t, ht⟩ := inv3 (p - q) k (by rw [Int.sub_mul]; exact hk)
  clear hk
  omega
theorem stp_inj (n a b : Int) (ha0 : 0 ≤ a) (ha1 : a ≤ 255) (hb0 : 0 ≤ b) (hb1 : b ≤ 255) : stp n a = stp n b ↔ a = b := by
  constructor
  · intro h
    unfold stp at h
    rw [Int.emod_eq_of_lt (a := a) (by omega) (by omega), Int.emod_eq_of_lt (a := b) (by omega) (by omega)] at h
    apply xor_inj n a b ha0 ha1 hb0 hb1
    have r : ∀ c : Int, 0 ≤ Go.bits .xor .u32 n c ∧ Go.bits .xor .u32 n c < 4294967296 := fun c => by
      unfold Go.bits
      rw [IntKind.wrap_u32]
      omega
    have r1 := r a
    have r2 := r b
    generalize Go.bits .xor .u32 n a = p at h r1 ⊢
    generalize Go.bits .xor .u32 n b = q at h r2 ⊢
    clear r
    obtain ⟨k, hk⟩ := Int.dvd_of_emod_eq_zero (Int.emod_eq_emod_iff_emod_sub_eq_zero.1 h)
    exact inv_step p q k hk r1 r2
  · rintro rfl; rfl
set_option maxHeartbeats 4000000 in
set_option maxRecDepth 100000 in
theorem bytes_core (s : ByteArray) (a b n X Y : Int) (w : World) (hs : s.size ≤ 5000) (ha0 : 0 ≤ a) (ha1 : a ≤ 255) (hb0 : 0 ≤ b) (hb1 : b ≤ 255) (r0 : 0 ≤ n) (r1 : n < 4294967296)
    (hn : Hid (num s = n)) (hX : Hid (num (s ++ strOfNums [a]) = X)) (hY : Hid (num (s ++ strOfNums [b]) = Y)) (eX : Hid (X = stp n a)) (eY : Hid ((X = Y) ↔ (a = b))) :
    Calls Try.prog 8 #[.string s, .int .u8 a, .int .u8 b] w fun e w' => e = .returned (.bool true) ∧ Below w.heap.size w w' := by
  have sA : Hid (∀ W : World, Calls Try.prog 14 #[.string (s ++ strOfNums [a])] W fun e w' => e = .returned (.int .u32 X) ∧ Drawn0 W w') := fun W => by
    have := sum_any (s ++ strOfNums [a]) (by rw [ByteArray.size_append]; have : (strOfNums [a]).size = 1 := rfl; omega) W
    rw [hX.out] at this
    exact this
  have sB : Hid (∀ W : World, Calls Try.prog 14 #[.string (s ++ strOfNums [b])] W fun e w' => e = .returned (.int .u32 Y) ∧ Drawn0 W w') := fun W => by
    have := sum_any (s ++ strOfNums [b]) (by rw [ByteArray.size_append]; have : (strOfNums [b]).size = 1 := rfl; omega) W
    rw [hY.out] at this
    exact this
  have sN : Hid (∀ W : World, Calls Try.prog 14 #[.string s] W fun e w' => e = .returned (.int .u32 n) ∧ Drawn0 W w') := fun W => by
    have := sum_any s (by omega) W
    rw [hn.out] at this
    exact this
  have c1 : ∀ n : Nat, (Go.convert 36 9 (.slice (some ⟨w.heap.size, 0, none⟩) 1 1)).run Try.prog ((w.drewN n).alloc (.cells #[.int .u8 a] 5)) = .ok (.string (strOfNums [a])) ((w.drewN n).alloc (.cells #[.int .u8 a] 5)) := fun n => conv_one _ _ a (by first | exact cl _ _ _ rfl | exact cl _ _ _ (by simp) | exact cb _ _ _ _ (cl _ _ _ rfl) | exact cb _ _ _ _ (cl _ _ _ (by simp)))
  have c2 : ∀ n m : Nat, (Go.convert 36 9 (.slice (some ⟨w.heap.size, 0, none⟩) 1 1)).run Try.prog (((w.drewN n).alloc (.cells #[.int .u8 a] 5)).drewN m) = .ok (.string (strOfNums [a])) (((w.drewN n).alloc (.cells #[.int .u8 a] 5)).drewN m) := fun n m => conv_one _ _ a (by first | exact cl _ _ _ rfl | exact cl _ _ _ (by simp) | exact cb _ _ _ _ (cl _ _ _ rfl) | exact cb _ _ _ _ (cl _ _ _ (by simp)))
  have c3 : ∀ n : Nat, (Go.convert 36 9 (.slice (some ⟨w.heap.size, 0, none⟩) 1 1)).run Try.prog (((w.drewN n).alloc (.cells #[.int .u8 a] 5)).alloc (.cells #[.int .u8 b] 5)) = .ok (.string (strOfNums [a])) (((w.drewN n).alloc (.cells #[.int .u8 a] 5)).alloc (.cells #[.int .u8 b] 5)) := fun n => conv_one _ _ a (by first | exact cl _ _ _ rfl | exact cl _ _ _ (by simp) | exact cb _ _ _ _ (cl _ _ _ rfl) | exact cb _ _ _ _ (cl _ _ _ (by simp)))
  have c4 : ∀ n : Nat, (Go.convert 36 9 (.slice (some ⟨(w.heap.size + 1), 0, none⟩) 1 1)).run Try.prog (((w.drewN n).alloc (.cells #[.int .u8 a] 5)).alloc (.cells #[.int .u8 b] 5)) = .ok (.string (strOfNums [b])) (((w.drewN n).alloc (.cells #[.int .u8 a] 5)).alloc (.cells #[.int .u8 b] 5)) := fun n => conv_one _ _ b (by first | exact cl _ _ _ rfl | exact cl _ _ _ (by simp) | exact cb _ _ _ _ (cl _ _ _ rfl) | exact cb _ _ _ _ (cl _ _ _ (by simp)))
  have c5 : ∀ n m : Nat, (Go.convert 36 9 (.slice (some ⟨w.heap.size, 0, none⟩) 1 1)).run Try.prog ((((w.drewN n).alloc (.cells #[.int .u8 a] 5)).drewN m).alloc (.cells #[.int .u8 b] 5)) = .ok (.string (strOfNums [a])) ((((w.drewN n).alloc (.cells #[.int .u8 a] 5)).drewN m).alloc (.cells #[.int .u8 b] 5)) := fun n m => conv_one _ _ a (by first | exact cl _ _ _ rfl | exact cl _ _ _ (by simp) | exact cb _ _ _ _ (cl _ _ _ rfl) | exact cb _ _ _ _ (cl _ _ _ (by simp)))
  have c6 : ∀ n m : Nat, (Go.convert 36 9 (.slice (some ⟨(w.heap.size + 1), 0, none⟩) 1 1)).run Try.prog ((((w.drewN n).alloc (.cells #[.int .u8 a] 5)).drewN m).alloc (.cells #[.int .u8 b] 5)) = .ok (.string (strOfNums [b])) ((((w.drewN n).alloc (.cells #[.int .u8 a] 5)).drewN m).alloc (.cells #[.int .u8 b] 5)) := fun n m => conv_one _ _ b (by first | exact cl _ _ _ rfl | exact cl _ _ _ (by simp) | exact cb _ _ _ _ (cl _ _ _ rfl) | exact cb _ _ _ _ (cl _ _ _ (by simp)))
  have c7 : ∀ n m : Nat, (Go.convert 36 9 (.slice (some ⟨w.heap.size, 0, none⟩) 1 1)).run Try.prog ((((w.drewN n).alloc (.cells #[.int .u8 a] 5)).alloc (.cells #[.int .u8 b] 5)).drewN m) = .ok (.string (strOfNums [a])) ((((w.drewN n).alloc (.cells #[.int .u8 a] 5)).alloc (.cells #[.int .u8 b] 5)).drewN m) := fun n m => conv_one _ _ a (by first | exact cl _ _ _ rfl | exact cl _ _ _ (by simp) | exact cb _ _ _ _ (cl _ _ _ rfl) | exact cb _ _ _ _ (cl _ _ _ (by simp)))
  have c8 : ∀ n m : Nat, (Go.convert 36 9 (.slice (some ⟨(w.heap.size + 1), 0, none⟩) 1 1)).run Try.prog ((((w.drewN n).alloc (.cells #[.int .u8 a] 5)).alloc (.cells #[.int .u8 b] 5)).drewN m) = .ok (.string (strOfNums [b])) ((((w.drewN n).alloc (.cells #[.int .u8 a] 5)).alloc (.cells #[.int .u8 b] 5)).drewN m) := fun n m => conv_one _ _ b (by first | exact cl _ _ _ rfl | exact cl _ _ _ (by simp) | exact cb _ _ _ _ (cl _ _ _ rfl) | exact cb _ _ _ _ (cl _ _ _ (by simp)))
  have c9 : ∀ n m k : Nat, (Go.convert 36 9 (.slice (some ⟨w.heap.size, 0, none⟩) 1 1)).run Try.prog (((((w.drewN n).alloc (.cells #[.int .u8 a] 5)).drewN m).alloc (.cells #[.int .u8 b] 5)).drewN k) = .ok (.string (strOfNums [a])) (((((w.drewN n).alloc (.cells #[.int .u8 a] 5)).drewN m).alloc (.cells #[.int .u8 b] 5)).drewN k) := fun n m k => conv_one _ _ a (by first | exact cl _ _ _ rfl | exact cl _ _ _ (by simp) | exact cb _ _ _ _ (cl _ _ _ rfl) | exact cb _ _ _ _ (cl _ _ _ (by simp)))
  have c10 : ∀ n m k : Nat, (Go.convert 36 9 (.slice (some ⟨(w.heap.size + 1), 0, none⟩) 1 1)).run Try.prog (((((w.drewN n).alloc (.cells #[.int .u8 a] 5)).drewN m).alloc (.cells #[.int .u8 b] 5)).drewN k) = .ok (.string (strOfNums [b])) (((((w.drewN n).alloc (.cells #[.int .u8 a] 5)).drewN m).alloc (.cells #[.int .u8 b] 5)).drewN k) := fun n m k => conv_one _ _ b (by first | exact cl _ _ _ rfl | exact cl _ _ _ (by simp) | exact cb _ _ _ _ (cl _ _ _ rfl) | exact cb _ _ _ _ (cl _ _ _ (by simp)))
  have c11 : ∀ n : Nat, (Go.convert 36 9 (.slice (some ⟨w.heap.size, 0, none⟩) 1 1)).run Try.prog ((w.drewN n).alloc (.cells #[.int .u8 b] 5)) = .ok (.string (strOfNums [b])) ((w.drewN n).alloc (.cells #[.int .u8 b] 5)) := fun n => conv_one _ _ b (by first | exact cl _ _ _ rfl | exact cl _ _ _ (by simp) | exact cb _ _ _ _ (cl _ _ _ rfl) | exact cb _ _ _ _ (cl _ _ _ (by simp)))
  have c12 : ∀ n m : Nat, (Go.convert 36 9 (.slice (some ⟨w.heap.size, 0, none⟩) 1 1)).run Try.prog (((w.drewN n).alloc (.cells #[.int .u8 b] 5)).drewN m) = .ok (.string (strOfNums [b])) (((w.drewN n).alloc (.cells #[.int .u8 b] 5)).drewN m) := fun n m => conv_one _ _ b (by first | exact cl _ _ _ rfl | exact cl _ _ _ (by simp) | exact cb _ _ _ _ (cl _ _ _ rfl) | exact cb _ _ _ _ (cl _ _ _ (by simp)))
  have c13 : ∀ n : Nat, (Go.convert 36 9 (.slice (some ⟨w.heap.size, 0, none⟩) 1 1)).run Try.prog (((w.drewN n).alloc (.cells #[.int .u8 b] 5)).alloc (.cells #[.int .u8 a] 5)) = .ok (.string (strOfNums [b])) (((w.drewN n).alloc (.cells #[.int .u8 b] 5)).alloc (.cells #[.int .u8 a] 5)) := fun n => conv_one _ _ b (by first | exact cl _ _ _ rfl | exact cl _ _ _ (by simp) | exact cb _ _ _ _ (cl _ _ _ rfl) | exact cb _ _ _ _ (cl _ _ _ (by simp)))
  have c14 : ∀ n : Nat, (Go.convert 36 9 (.slice (some ⟨(w.heap.size + 1), 0, none⟩) 1 1)).run Try.prog (((w.drewN n).alloc (.cells #[.int .u8 b] 5)).alloc (.cells #[.int .u8 a] 5)) = .ok (.string (strOfNums [a])) (((w.drewN n).alloc (.cells #[.int .u8 b] 5)).alloc (.cells #[.int .u8 a] 5)) := fun n => conv_one _ _ a (by first | exact cl _ _ _ rfl | exact cl _ _ _ (by simp) | exact cb _ _ _ _ (cl _ _ _ rfl) | exact cb _ _ _ _ (cl _ _ _ (by simp)))
  have c15 : ∀ n m : Nat, (Go.convert 36 9 (.slice (some ⟨w.heap.size, 0, none⟩) 1 1)).run Try.prog ((((w.drewN n).alloc (.cells #[.int .u8 b] 5)).drewN m).alloc (.cells #[.int .u8 a] 5)) = .ok (.string (strOfNums [b])) ((((w.drewN n).alloc (.cells #[.int .u8 b] 5)).drewN m).alloc (.cells #[.int .u8 a] 5)) := fun n m => conv_one _ _ b (by first | exact cl _ _ _ rfl | exact cl _ _ _ (by simp) | exact cb _ _ _ _ (cl _ _ _ rfl) | exact cb _ _ _ _ (cl _ _ _ (by simp)))
  have c16 : ∀ n m : Nat, (Go.convert 36 9 (.slice (some ⟨(w.heap.size + 1), 0, none⟩) 1 1)).run Try.prog ((((w.drewN n).alloc (.cells #[.int .u8 b] 5)).drewN m).alloc (.cells #[.int .u8 a] 5)) = .ok (.string (strOfNums [a])) ((((w.drewN n).alloc (.cells #[.int .u8 b] 5)).drewN m).alloc (.cells #[.int .u8 a] 5)) := fun n m => conv_one _ _ a (by first | exact cl _ _ _ rfl | exact cl _ _ _ (by simp) | exact cb _ _ _ _ (cl _ _ _ rfl) | exact cb _ _ _ _ (cl _ _ _ (by simp)))
  have c17 : ∀ n m : Nat, (Go.convert 36 9 (.slice (some ⟨w.heap.size, 0, none⟩) 1 1)).run Try.prog ((((w.drewN n).alloc (.cells #[.int .u8 b] 5)).alloc (.cells #[.int .u8 a] 5)).drewN m) = .ok (.string (strOfNums [b])) ((((w.drewN n).alloc (.cells #[.int .u8 b] 5)).alloc (.cells #[.int .u8 a] 5)).drewN m) := fun n m => conv_one _ _ b (by first | exact cl _ _ _ rfl | exact cl _ _ _ (by simp) | exact cb _ _ _ _ (cl _ _ _ rfl) | exact cb _ _ _ _ (cl _ _ _ (by simp)))
  have c18 : ∀ n m : Nat, (Go.convert 36 9 (.slice (some ⟨(w.heap.size + 1), 0, none⟩) 1 1)).run Try.prog ((((w.drewN n).alloc (.cells #[.int .u8 b] 5)).alloc (.cells #[.int .u8 a] 5)).drewN m) = .ok (.string (strOfNums [a])) ((((w.drewN n).alloc (.cells #[.int .u8 b] 5)).alloc (.cells #[.int .u8 a] 5)).drewN m) := fun n m => conv_one _ _ a (by first | exact cl _ _ _ rfl | exact cl _ _ _ (by simp) | exact cb _ _ _ _ (cl _ _ _ rfl) | exact cb _ _ _ _ (cl _ _ _ (by simp)))
  have c19 : ∀ n m k : Nat, (Go.convert 36 9 (.slice (some ⟨w.heap.size, 0, none⟩) 1 1)).run Try.prog (((((w.drewN n).alloc (.cells #[.int .u8 b] 5)).drewN m).alloc (.cells #[.int .u8 a] 5)).drewN k) = .ok (.string (strOfNums [b])) (((((w.drewN n).alloc (.cells #[.int .u8 b] 5)).drewN m).alloc (.cells #[.int .u8 a] 5)).drewN k) := fun n m k => conv_one _ _ b (by first | exact cl _ _ _ rfl | exact cl _ _ _ (by simp) | exact cb _ _ _ _ (cl _ _ _ rfl) | exact cb _ _ _ _ (cl _ _ _ (by simp)))
  have c20 : ∀ n m k : Nat, (Go.convert 36 9 (.slice (some ⟨(w.heap.size + 1), 0, none⟩) 1 1)).run Try.prog (((((w.drewN n).alloc (.cells #[.int .u8 b] 5)).drewN m).alloc (.cells #[.int .u8 a] 5)).drewN k) = .ok (.string (strOfNums [a])) (((((w.drewN n).alloc (.cells #[.int .u8 b] 5)).drewN m).alloc (.cells #[.int .u8 a] 5)).drewN k) := fun n m k => conv_one _ _ a (by first | exact cl _ _ _ rfl | exact cl _ _ _ (by simp) | exact cb _ _ _ _ (cl _ _ _ rfl) | exact cb _ _ _ _ (cl _ _ _ (by simp)))
  have zA : (strOfNums [a]).size = 1 := rfl
  have zB : (strOfNums [b]).size = 1 := rfl
  go_enter Try.func8, Try.ntmps8
  go_wp2_with (first | (go_at_call 20; refine (works_any _).mono ?_; rintro e w' ⟨rfl, ⟨nd, rfl⟩⟩) | (go_at_call 14; refine (sN.out _).mono ?_; rintro e w' ⟨rfl, ⟨nd, rfl⟩⟩))
  go_region_with (go_at_call 14; (first | (with_reducible refine (sA.out _).mono ?_) | (with_reducible refine (sB.out _).mono ?_)); rintro e w' ⟨rfl, ⟨nd2, rfl⟩⟩)
  all_goals (clear c1 c2 c3 c4 c5 c6 c7 c8 c9 c10 c11 c12 c13 c14 c15 c16 c17 c18 c19 c20)
  all_goals (have T1 : (X == Go.bits .xor .u32 n a * 16777619 % 4294967296) = true := (by rw [beq_iff_eq, eX.out]; unfold stp; rw [Int.emod_eq_of_lt (a := a) (by omega) (by omega)]))
  all_goals (have T2 : ((X == Y) == (a == b)) = true := (by rw [beq_iff_eq, Bool.eq_iff_iff, beq_iff_eq, beq_iff_eq]; exact eY.out))
  all_goals go_wp2
  all_goals (go_ret; refine ⟨rfl, ?_⟩; repeat (first | exact Below.refl _ _ | exact below_here _ _ | (refine Below.alloc ?_ (by simp) _) | (refine pw_below_drewN ?_ _)))
theorem bytes_walk (s : ByteArray) (a b : Int) (w : World) (hs : s.size ≤ 140737488351232) (ha : (Lit.int .u8 a).wf = true) (hb : (Lit.int .u8 b).wf = true) :
    Calls Try.prog 8 #[.string s, .int .u8 a, .int .u8 b] w fun e w' => e = .returned (.bool true) ∧ Below w.heap.size w w' := by
  obtain ⟨ha0, ha1⟩ := bounds_u8 ha
  obtain ⟨hb0, hb1⟩ := bounds_u8 hb
  by_cases h : s.size ≤ 5000
  · have r := fm_range s s.size 0 2166136261 (by decide) (by decide)
    exact bytes_core s a b (num s) (num (s ++ strOfNums [a])) (num (s ++ strOfNums [b])) w h ha0 ha1 hb0 hb1 r.1 r.2 rfl rfl rfl (num_byte s a ha0 ha1) (by
      show _ ↔ _
      rw [num_byte s a ha0 ha1, num_byte s b hb0 hb1]
      exact stp_inj _ a b ha0 ha1 hb0 hb1)
  · have h' : 5000 < s.size := by omega
    clear h
    go_enter Try.func8, Try.ntmps8
    go_wp2_with (go_at_call 20; refine (works_any _).mono ?_; rintro e w' ⟨rfl, ⟨nd, rfl⟩⟩)
    go_ret
    exact ⟨rfl, below_here _ _⟩

end Go.Proofs.Ytihoefnflbfebaa.Bytes
