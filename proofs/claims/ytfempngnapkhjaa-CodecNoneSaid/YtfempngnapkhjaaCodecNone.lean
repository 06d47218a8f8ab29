/- The walk of the law CodecNone: it returns true at any two places. -/
import Derived.Test.YtfempngnapkhjaaCodecWorks
import Derived.Test.YtfempngnapkhjaaCodecFacts
import Derived.Test.YtfempngnapkhjaaCodecBuf
import Derived.Deep.DeepCutAuto
import Derived.OpenShut
namespace Go.Proofs.Ytfempngnapkhjaa.Codec
open Go.RowKit Go.Proofs.Ytfempngnapkhjaa.Mem Go.Proofs.Ytfempngnapkhjaa.CodecPure
set_option linter.unusedVariables false

theorem place_mod (p : Int) : ∃ x : Int, 0 ≤ x ∧ x < 2147483648 ∧ (IntKind.u64.wrap p).tmod 2147483648 = x := by
  rw [u64_wrap]
  have h := Int.emod_nonneg p (show (18446744073709551616 : Int) ≠ 0 by decide)
  generalize p % 18446744073709551616 = r at h
  rw [Int.tmod_eq_emod_of_nonneg h]
  exact ⟨r % 2147483648, by omega, by omega, rfl⟩
def Q0 : List Int := [0, 0, 0, 0]
theorem putPlace4 (x : Int) (h0 : -1 ≤ x) (h1 : x < 2147483648) : putPlaceC Q0 0 x = (leb (x % 4294967296) 4, 0) := by
  rw [putPlaceC_of Q0 0 x (by omega)]
  exact putC_all Q0 4 _ (by decide) rfl (by
    rintro ⟨_, h⟩
    apply h
    show x % 4294967296 / 4294967296 = 0
    omega)
theorem getPlace4 (x : Int) (h0 : 0 ≤ x) (h1 : x < 2147483648) : getPlaceC (leb x 4) 0 = (x, 0) := by
  unfold getPlaceC
  have e : le (((leb x 4).drop (0 : Int).toNat).take 4) = x := by
    have z : ((leb x 4).drop (0 : Int).toNat) = leb x 4 := rfl
    rw [z, leb_take 4 x 4 (by decide), le_leb]
    show x % 4294967296 = x
    omega
  rw [if_pos ⟨by decide, by decide, by rw [leb_length]; decide⟩, e, if_neg (by omega), if_neg (by omega)]
theorem leb_inj (x y : Int) (h0 : 0 ≤ x) (h1 : x < 4294967296) (h2 : 0 ≤ y) (h3 : y < 4294967296) (h : leb x 4 = leb y 4) : x = y := by
  have e := congrArg le h
  rw [le_leb, le_leb] at e
  have e2 : x % 4294967296 = y % 4294967296 := e
  omega
theorem str_ne (a b : List Int) (ha : Bytes a) (hb : Bytes b) (h : a ≠ b) : ((strOfNums a).toList == (strOfNums b).toList) = false := by
  rw [Bool.eq_false_iff]
  intro e
  apply h
  apply strOfNums_inj ha hb
  rw [ByteArray.toList_eq, ByteArray.toList_eq] at e
  have e2 : (strOfNums a).data.toList = (strOfNums b).data.toList := by simpa using e
  exact congrArg ByteArray.mk (Array.toList_inj.1 e2)
def zz : Obj := .cells #[.int .u8 0, .int .u8 0, .int .u8 0, .int .u8 0] 5
theorem buf_last (W : World) (g : Nat) (h : W.heap.size = g) : Buf (W.alloc zz) g Q0 := by
  subst h; exact heap_alloc_new W _
theorem buf_more (W : World) (g : Nat) (o : Obj) (l : List Int) (h : Buf W g l) : Buf (W.alloc o) g l := (Below.heap_alloc W o g (blk_lt h)).trans h
theorem buf3 (W : World) : Buf (((W.alloc zz).alloc zz).alloc zz) W.heap.size Q0 ∧ Buf (((W.alloc zz).alloc zz).alloc zz) (W.heap.size + 1) Q0 ∧ Buf (((W.alloc zz).alloc zz).alloc zz) (W.heap.size + 1 + 1) Q0 :=
  ⟨buf_more _ _ _ _ (buf_more _ _ _ _ (buf_last W _ rfl)), buf_more _ _ _ _ (buf_last _ _ (by simp)), buf_last _ _ (by simp)⟩
theorem below3 (W : World) : Below W.heap.size W (((W.drew.alloc zz).alloc zz).alloc zz) :=
  (((Below.refl _ W).drew.alloc (Nat.le_refl _) _).alloc (by rw [World.size_alloc]; exact Nat.le_succ _) _).alloc (by rw [World.size_alloc, World.size_alloc]; exact Nat.le_succ_of_le (Nat.le_succ _)) _
set_option maxHeartbeats 1000000 in
theorem none_core (p q x y : Int) (w : World) (x0 : 0 ≤ x) (x1 : x < 2147483648) (y0 : 0 ≤ y) (y1 : y < 2147483648) (ex : (IntKind.u64.wrap p).tmod 2147483648 = x) (ey : (IntKind.u64.wrap q).tmod 2147483648 = y) :
    Calls Try.prog 8 #[.int .i64 p, .int .i64 q] w fun e w' => e = .returned (.bool true) ∧ Below w.heap.size w w' := by
  have hmk : ∀ W : World, (Instr.makeSlice 22 (.int .i64 4) (.int .i64 4)).run Try.prog W = .ok (.slice (some ⟨W.heap.size, 0, none⟩) 4 4) (W.alloc (.cells #[.int .u8 0, .int .u8 0, .int .u8 0, .int .u8 0] 5)) := fun _ => by kernel_rfl
  obtain ⟨X, eX⟩ : ∃ X, leb x 4 = X := ⟨_, rfl⟩
  obtain ⟨Y, eY⟩ : ∃ Y, leb y 4 = Y := ⟨_, rfl⟩
  have bX : Hid (Bytes X) := by rw [← eX]; exact leb_bytes 4 x
  have bY : Hid (Bytes Y) := by rw [← eY]; exact leb_bytes 4 y
  have lX : Hid (X.length = 4) := by rw [← eX]; exact leb_length 4 x
  have lY : Hid (Y.length = 4) := by rw [← eY]; exact leb_length 4 y
  have k1 : Hid (∀ W g, Buf W g Q0 → Calls Try.prog 15 #[.slice (some ⟨g, 0, none⟩) 4 4, .int .i64 0, .int .i64 x] W (Wb W g X 0)) := fun W g h => by
    have := putplace_buf g Q0 0 x W h (by decide) (by decide) (by omega)
    have em : x % 4294967296 = x := by omega
    rw [putPlace4 x (by omega) x1, em, eX] at this
    exact this
  have k2 : Hid (∀ W g, Buf W g Q0 → Calls Try.prog 15 #[.slice (some ⟨g, 0, none⟩) 4 4, .int .i64 0, .int .i64 y] W (Wb W g Y 0)) := fun W g h => by
    have := putplace_buf g Q0 0 y W h (by decide) (by decide) (by omega)
    have em : y % 4294967296 = y := by omega
    rw [putPlace4 y (by omega) y1, em, eY] at this
    exact this
  have k3 : Hid (∀ W g, Buf W g Q0 → Calls Try.prog 15 #[.slice (some ⟨g, 0, none⟩) 4 4, .int .i64 0, .int .i64 (-1)] W (Wb W g [255, 255, 255, 255] 0)) := fun W g h => by
    have := putplace_buf g Q0 0 (-1) W h (by decide) (by decide) (by decide)
    have e : putPlaceC Q0 0 (-1) = ([255, 255, 255, 255], 0) := by decide +kernel
    rw [e] at this
    exact this
  have k4 : Hid (∀ W g, Buf W g X → Calls Try.prog 13 #[.slice (some ⟨g, 0, none⟩) 4 4, .int .i64 0] W fun e w' => e = .returned (.tuple #[.int .i64 x, .int .i64 0]) ∧ W = w') := fun W g h => by
    have := getplace_calls (some ⟨g, 0, none⟩) X 4 0 W h.sl bX.out (by rw [lX.out]; decide) (by decide) (by decide)
    have e : getPlaceC X 0 = (x, 0) := by rw [← eX]; exact getPlace4 x x0 x1
    rw [e, lX.out] at this
    exact this
  have k5 : Hid (∀ W g, Buf W g [255, 255, 255, 255] → Calls Try.prog 11 #[.slice (some ⟨g, 0, none⟩) 4 4, .int .i64 0, .int .i64 4] W fun e w' => e = .returned (.tuple #[.int .u64 4294967295, .int .i64 0]) ∧ W = w') := fun W g h => by
    have := get_calls (some ⟨g, 0, none⟩) [255, 255, 255, 255] 4 0 4 W h.sl (fun z hz => by
      simp only [List.mem_cons, List.not_mem_nil, or_false] at hz
      omega) (by decide) (by decide) (by decide)
    have e : getC [255, 255, 255, 255] 0 4 = (4294967295, 0) := by decide +kernel
    rw [e] at this
    exact this
  obtain ⟨SA, eA⟩ : ∃ S, strOfNums X = S := ⟨_, rfl⟩
  obtain ⟨SB, eB⟩ : ∃ S, strOfNums Y = S := ⟨_, rfl⟩
  obtain ⟨SC, eC⟩ : ∃ S, strOfNums [255, 255, 255, 255] = S := ⟨_, rfl⟩
  have c4 : Hid (∀ W g Z S, Buf W g Z → Z.length = 4 → strOfNums Z = S → (Go.convert 22 9 (.slice (some ⟨g, 0, none⟩) 4 4)).run Try.prog W = .ok (.string S) W) := fun W g Z S h hl hS => by
    have := conv_sl (c := 4) Try.underlying22 Try.underlying5 Try.underlying9 h.sl
    rw [hl, hS] at this
    exact this
  have nC : (SA.toList == SC.toList) = false := by
    rw [← eA, ← eC]
    exact str_ne _ _ bX.out (by intro z hz; simp only [List.mem_cons, List.not_mem_nil, or_false] at hz; omega) (by
      intro h
      have := congrArg le h
      rw [← eX, le_leb] at this
      have e2 : x % 4294967296 = 4294967295 := this
      omega)
  have SXY : Hid ((x = y → SA = SB) ∧ (¬ x = y → (SA.toList == SB.toList) = false)) := by
    refine ⟨fun h => by rw [← eA, ← eB, ← eX, ← eY, h], fun h => ?_⟩
    rw [← eA, ← eB]
    exact str_ne _ _ bX.out bY.out fun e => h (leb_inj x y x0 (by omega) y0 (by omega) (by rw [eX, eY]; exact e))
  have EA := Lib.hid eA
  have EB := Lib.hid eB
  have EC := Lib.hid eC
  clear eX eY eA eB eC
  go_enter Try.func8, Try.ntmps8
  go_upto_region 4 with (go_at_call 17; refine (works_calls _).mono ?_; rintro e w1 ⟨rfl, hb⟩; have B1 := Lib.hid hb; clear hb)
  go_cut [5, 6, 7] (fun a b c wc => ∃ ga gb gc : Nat, a = .slice (some ⟨ga, 0, none⟩) 4 4 ∧ b = .slice (some ⟨gb, 0, none⟩) 4 4 ∧ c = .slice (some ⟨gc, 0, none⟩) 4 4 ∧ Hid (ga ≠ gb ∧ ga ≠ gc ∧ gb ≠ gc ∧ w1.heap.size ≤ ga ∧ w1.heap.size ≤ gb ∧ w1.heap.size ≤ gc) ∧ Hid (Buf wc ga Q0 ∧ Buf wc gb Q0 ∧ Buf wc gc Q0) ∧ Hid (Below w1.heap.size w1 wc))
  case first =>
    go_region
    all_goals
      go_wp2_with fail
      go_meet
      exact ⟨_, _, _, rfl, rfl, rfl, (show _ ∧ _ by omega), ⟨by first | exact (buf3 w1.drew).1 | exact (buf3 w1.drew).2.1 | exact (buf3 w1.drew).2.2, by first | exact (buf3 w1.drew).1 | exact (buf3 w1.drew).2.1 | exact (buf3 w1.drew).2.2, by first | exact (buf3 w1.drew).1 | exact (buf3 w1.drew).2.1 | exact (buf3 w1.drew).2.2⟩, below3 w1⟩
  case rest =>
    obtain ⟨ga, gb, gc, rfl, rfl, rfl, D, F, B2⟩ := hcut
    clear hmk
    go_wp2_with fail
    refine (k1.out wc ga F.out.1).mono ?_
    rintro e w2 ⟨rfl, ha, hc⟩
    have A2 := Lib.hid ha
    have H2 : Hid (Buf w2 gb Q0 ∧ Buf w2 gc Q0) := ⟨F.out.2.1.chg hc D.out.1.symm, F.out.2.2.chg hc D.out.2.1.symm⟩
    have B3 : Hid (Below w1.heap.size w1 w2) := B2.out.trans ((hc.below B2.out.size fun b h => by have := D.out; have h' : b = ga := h; omega))
    clear ha hc
    go_wp2_with fail
    refine (k2.out w2 gb H2.out.1).mono ?_
    rintro e w3 ⟨rfl, hb, hc⟩
    have A3 : Hid (Buf w3 ga X ∧ Buf w3 gb Y ∧ Buf w3 gc Q0) := ⟨A2.out.chg hc D.out.1, hb, H2.out.2.chg hc D.out.2.2.1.symm⟩
    have B4 : Hid (Below w1.heap.size w1 w3) := B3.out.trans (hc.below B3.out.size fun b h => by have := D.out; have h' : b = gb := h; omega)
    clear hb hc
    go_wp2_with fail
    refine (k3.out w3 gc A3.out.2.2).mono ?_
    rintro e w4 ⟨rfl, hb, hc⟩
    have A4 : Hid (Buf w4 ga X ∧ Buf w4 gb Y ∧ Buf w4 gc [255, 255, 255, 255]) := ⟨A3.out.1.chg hc D.out.2.1, A3.out.2.1.chg hc D.out.2.2.1, hb⟩
    have B5 : Hid (Below w1.heap.size w1 w4) := B4.out.trans (hc.below B4.out.size fun b h => by have := D.out; have h' : b = gc := h; omega)
    clear hb hc
    have v1 := c4.out w4 ga X SA A4.out.1 lX.out EA.out
    have v2 := c4.out w4 gb Y SB A4.out.2.1 lY.out EB.out
    have v3 := c4.out w4 gc _ SC A4.out.2.2 rfl EC.out
    by_cases hxy : x = y
    · obtain rfl := SXY.out.1 hxy
      have t1 : (x == y) = true := by simpa using hxy
      clear hxy
      go_wp2_with (first | (go_at_call 13; refine (k4.out w4 ga A4.out.1).mono ?_; rintro e w' ⟨rfl, rfl⟩) | (go_at_call 11; refine (k5.out w4 gc A4.out.2.2).mono ?_; rintro e w' ⟨rfl, rfl⟩))
      go_ret
      exact ⟨rfl, B1.out.trans (B5.out.mono B1.out.size)⟩
    · have t2 := SXY.out.2 hxy
      have t1 : (x == y) = false := by simpa using hxy
      clear hxy
      go_wp2_with (first | (go_at_call 13; refine (k4.out w4 ga A4.out.1).mono ?_; rintro e w' ⟨rfl, rfl⟩) | (go_at_call 11; refine (k5.out w4 gc A4.out.2.2).mono ?_; rintro e w' ⟨rfl, rfl⟩))
      go_ret
      exact ⟨rfl, B1.out.trans (B5.out.mono B1.out.size)⟩
theorem none_walk (p q : Int) (w : World) (w1 : (Lit.int .i64 p).wf = true) (w2 : (Lit.int .i64 q).wf = true) :
    Calls Try.prog 8 #[.int .i64 p, .int .i64 q] w fun e w' => e = .returned (.bool true) ∧ Below w.heap.size w w' := by
  obtain ⟨x, x0, x1, ex⟩ := place_mod p
  obtain ⟨y, y0, y1, ey⟩ := place_mod q
  exact none_core p q x y w x0 x1 y0 y1 ex ey

end Go.Proofs.Ytfempngnapkhjaa.Codec
