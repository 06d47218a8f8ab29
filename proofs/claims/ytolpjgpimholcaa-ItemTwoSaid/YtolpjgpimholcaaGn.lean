import Derived.Test.YtolpjgpimholcaaGl
import Derived.Test.YtolpjgpimholcaaGi
import Derived.Test.YtolpjgpimholcaaGg
import Derived.Laws.Strings
/- Chapter 08's ItemTwo in plain words: two items in chunks of pages that are apart. No program in sight. -/
namespace Go.Proofs.Ytolpjgpimholcaa.Item
open Go Go.RowKit Go.Proofs.Ytolpjgpimholcaa.Mem Go.Proofs.Ytolpjgpimholcaa.CodecPure Go.Proofs.Ytolpjgpimholcaa.ArenaPure Go.Proofs.Ytolpjgpimholcaa.Codec Go.Proofs.Ytolpjgpimholcaa.Arena Go.Proofs.Ytolpjgpimholcaa.NeedPure Go.Proofs.Ytolpjgpimholcaa.Need
set_option linter.unusedVariables false
set_option maxRecDepth 100000
theorem need_small {k v : Nat} (hk : 1 ≤ k ∧ k ≤ 32) (hv : v < 1900) :
    ∃ (c m : Nat) (tc : Int), needC [64, 1024] k v = ((c : Int), (m : Int), 0) ∧ c < 2 ∧ m ≤ 1 ∧ [64, (1024 : Int)].getD c 0 = tc ∧ (40 + (k : Int) ≤ tc ∧ 44 ≤ tc ∧ tc ≤ 1024) ∧ 40 + (k : Int) + v ≤ tc + m * (tc - 4) := by
  rcases need_two (L := 1024) (by decide) (k := k) (v := v) (by omega) (by omega) with ⟨a, e⟩ | ⟨a, b, e⟩ | ⟨a, b, m, e, m1, m8, a3, a4⟩
  · exact ⟨0, 0, 64, e, by decide, by decide, rfl, by omega, by simp; omega⟩
  · exact ⟨1, 0, 1024, e, by decide, by decide, rfl, by omega, by simp; omega⟩
  · have : m = 1 := by omega
    subst this
    exact ⟨1, 1, 1024, e, by decide, by decide, rfl, by omega, by omega⟩
/-- the places of pages q, q + 2 -/
def twoL (q m : Nat) : List Int := ([1024 * (q : Int), 1024 * ((q : Int) + 2)] : List Int).take (m + 1)
theorem twoL_len {q m : Nat} (hm : m ≤ 1) : (twoL q m).length = m + 1 := by simp [twoL]; omega
theorem twoL_mem {q m : Nat} {p : Int} (h : p ∈ twoL q m) : p = 1024 * (q : Int) ∨ p = 1024 * ((q : Int) + 2) := by
  have := List.mem_of_mem_take h
  simpa using this
theorem twoL_0 (q m : Nat) : (twoL q m).getD 0 0 = 1024 * (q : Int) := by simp [twoL]
theorem twoL_1 {q m : Nat} (h : 1 < (twoL q m).length) : (twoL q m).getD 1 0 = 1024 * ((q : Int) + 2) := by
  have : m ≠ 0 := fun e => by subst e; simp [twoL] at h
  obtain ⟨n, rfl⟩ : ∃ n, m = n + 1 := ⟨m - 1, by omega⟩
  simp [twoL]
theorem fine_two {s : St} (hs : Ok s) (ho : s.own = [1, 1, 1, 1, 1, 1, -1]) {q m : Nat} (hq : q ≤ 1) (hm : m ≤ 1) {tc : Int} {K V : ByteArray} {cas : Int} (hk : 1 ≤ K.size ∧ K.size ≤ 32) (hv : V.size < 1900) (ht : 40 + (K.size : Int) ≤ tc ∧ 44 ≤ tc ∧ tc ≤ 1024)
    (hc : 0 ≤ cas ∧ cas < 10) : Fine s tc (twoL q m) (bs K) (bs V) 0 0 cas := by
  refine ⟨hs, by rw [twoL_len hm]; omega, by rw [bs_length]; exact ht, fun p hp => ?_, fun i j hi hj e => ?_, by rw [twoL_len hm]; omega, by rw [bs_length, bs_length]; omega, ⟨bs_bytes _, bs_bytes _⟩, by decide, by decide, by omega⟩
  · rcases twoL_mem hp with rfl | rfl
    · exact within7 ho (by omega) (by omega) ht.2.2
    · have e : ((q : Int) + 2) = ((q + 2 : Nat) : Int) := by omega
      rw [e]
      exact within7 ho (by omega) (by omega) ht.2.2
  · have hi' := hi
    have hj' := hj
    rw [twoL_len hm] at hi hj
    rcases (show i = 0 ∨ i = 1 by omega) with rfl | rfl <;> rcases (show j = 0 ∨ j = 1 by omega) with rfl | rfl
    · exact absurd rfl e
    · rw [twoL_0, twoL_1 hj']; omega
    · rw [twoL_0, twoL_1 hi']; omega
    · exact absurd rfl e
theorem off_two {tc : Int} {m : Nat} (hm : m ≤ 1) {q : Nat} {K V : ByteArray} (ht : 40 + (K.size : Int) ≤ tc ∧ 44 ≤ tc ∧ tc ≤ 1024) (h : 40 + (K.size : Int) + V.size ≤ tc + m * (tc - 4)) : offV tc (bs K).length (bs V).length (twoL q m).length = (bs V).length := by
  rw [twoL_len hm, bs_length, bs_length, offV_all (by omega) (by omega) (by omega)]
  omega
/-- the first item stays while the second is laid -/
theorem two_frame {s t : St} {tc td : Int} {m n : Nat} {K V K' V' : ByteArray} {c c' : Int} (h : ItemAt s tc (twoL 0 m) (bs K) (bs V) 0 0 c) (ht : tc ≤ 1024) (hd : td ≤ 1024) (hk : ItemK s t td (twoL 1 n) (bs K') (bs V') 0 0 c' (twoL 1 n).length) : ItemAt t tc (twoL 0 m) (bs K) (bs V) 0 0 c :=
  h.frame hk.lay fun p hp i h1 h2 ⟨q, hq, h3, h4⟩ => by
    rcases twoL_mem hp with rfl | rfl <;> rcases twoL_mem hq with rfl | rfl <;> simp only [Int.natCast_zero, Int.natCast_one] at * <;> omega
theorem twoL_cut0 {m : Nat} (hm : m ≤ 1) : ([0, 2048, 4096] : List Int).take (m + 1) = twoL 0 m := by
  rcases (show m = 0 ∨ m = 1 by omega) with rfl | rfl <;> decide
theorem twoL_cut1 {m : Nat} (hm : m ≤ 1) : ([1024, 3072, 5120] : List Int).take (m + 1) = twoL 1 m := by
  rcases (show m = 0 ∨ m = 1 by omega) with rfl | rfl <;> decide
/-- a text of n zero bytes -/
def zeroS (n : Nat) : ByteArray := strOfNums (List.replicate n 0)
theorem zeroS_size (n : Nat) : (zeroS n).size = n := by
  have h := bs_str (l := List.replicate n 0) fun x hx => by
    have := List.eq_of_mem_replicate hx
    omega
  have := congrArg List.length h
  rw [bs_length, List.length_replicate] at this
  exact this
def zeros (n : Nat) : Obj := .cells (nums .u8 (List.replicate n 0)).toArray 5
theorem make_bytes (n : Nat) (h : n ≤ 1000000) (W : World) : (Instr.makeSlice 52 (.int .i64 n) (.int .i64 n)).run Try.prog W = .ok (.slice (some ⟨W.heap.size, 0, none⟩) n n) (W.alloc (zeros n)) := by
  obtain ⟨i0, hi, hz0, hz1, hz2⟩ := info_parts infoByte
  rw [run_make W 52 5 i0 (.int .u8 0) Try.underlying52 hi hz0 .i64 .i64 n n (by omega) (by omega) (by rw [hz2]; omega) (by omega), hz1]
  have e : ((n : Int)).toNat = n := by omega
  have e2 : madeCells (Value.int .u8 0).cells (n * 1) = (nums .u8 (List.replicate n 0)).toArray := by
    apply Array.ext_getElem?
    intro i
    unfold madeCells nums
    rw [Array.getElem?_map, Array.getElem?_range, List.getElem?_toArray, List.getElem?_map, List.getElem?_replicate, Nat.mul_one]
    split
    · show some (#[Value.int .u8 0][i % 1]!) = some (Value.int .u8 0)
      rw [Nat.mod_one]; rfl
    · rfl
  rw [e, e2]
  rfl
theorem conv1 (n : Nat) (W : World) : (Go.convert 52 9 (.slice (some ⟨W.heap.size, 0, none⟩) n n)).run Try.prog (W.alloc (zeros n)) = .ok (.string (zeroS n)) (W.alloc (zeros n)) := by
  have := conv_sl (P := Try.prog) (c := n) Try.underlying52 Try.underlying5 Try.underlying9 (sl_lit W .u8 (List.replicate n 0) 5 (0, 0))
  rw [List.length_replicate] at this
  exact this
theorem convz {n b : Nat} {W : World} (h : Sl W .u8 (some ⟨b, 0, none⟩) (List.replicate n 0)) : (Go.convert 52 9 (.slice (some ⟨b, 0, none⟩) n n)).run Try.prog W = .ok (.string (zeroS n)) W := by
  have := conv_sl (P := Try.prog) (c := n) Try.underlying52 Try.underlying5 Try.underlying9 h
  rw [List.length_replicate] at this
  exact this
theorem convA (n : Nat) (W : World) : (Go.convert 52 9 (.slice (some ⟨W.heap.size, 0, none⟩) n n)).run Try.prog (W.alloc (zeros n)).drew = .ok (.string (zeroS n)) (W.alloc (zeros n)).drew :=
  convz ((sl_lit W .u8 (List.replicate n 0) 5 (0, 0)).chg (Chg.drew (fun _ => False) _) fun _ _ => id)
theorem convB (n : Nat) (W : World) (o : Obj) : (Go.convert 52 9 (.slice (some ⟨W.heap.size, 0, none⟩) n n)).run Try.prog ((W.alloc (zeros n)).alloc o).drew = .ok (.string (zeroS n)) ((W.alloc (zeros n)).alloc o).drew :=
  convz ((sl_lit W .u8 (List.replicate n 0) 5 (0, 0)).chg ((Chg.alloc (fun _ => False) _ o).trans (Chg.drew _ _)) fun _ _ => id)
theorem convC (n : Nat) (W : World) (o : Obj) : (Go.convert 52 9 (.slice (some ⟨W.heap.size + 1, 0, none⟩) n n)).run Try.prog ((W.alloc o).alloc (zeros n)).drew = .ok (.string (zeroS n)) ((W.alloc o).alloc (zeros n)).drew := by
  have h := sl_lit (W.alloc o) .u8 (List.replicate n 0) 5 (0, 0)
  rw [World.size_alloc] at h
  exact convz (h.chg (Chg.drew (fun _ => False) _) fun _ _ => id)
theorem conv2 (n : Nat) (W : World) (o : Obj) : (Go.convert 52 9 (.slice (some ⟨W.heap.size, 0, none⟩) n n)).run Try.prog ((W.alloc (zeros n)).alloc o) = .ok (.string (zeroS n)) ((W.alloc (zeros n)).alloc o) := by
  have := conv_sl (P := Try.prog) (c := n) Try.underlying52 Try.underlying5 Try.underlying9 ((sl_lit W .u8 (List.replicate n 0) 5 (0, 0)).chg (Chg.alloc (fun _ => False) _ o) fun _ _ => id)
  rw [List.length_replicate] at this
  exact this
end Go.Proofs.Ytolpjgpimholcaa.Item

/- The walk of the law ItemTwo: it returns true at any numbers and keys. -/
namespace Go.Proofs.Ytolpjgpimholcaa.Item
open Go Go.RowKit Go.Proofs.Ytolpjgpimholcaa.Mem Go.Proofs.Ytolpjgpimholcaa.CodecPure Go.Proofs.Ytolpjgpimholcaa.ArenaPure Go.Proofs.Ytolpjgpimholcaa.Codec Go.Proofs.Ytolpjgpimholcaa.Arena Go.Proofs.Ytolpjgpimholcaa.NeedPure Go.Proofs.Ytolpjgpimholcaa.Need
set_option linter.unusedVariables false
set_option maxRecDepth 100000
theorem add_one (ad : Addr) : ad.add 1 = ⟨ad.block, ad.off + 1, none⟩ := by unfold Addr.add; rw [if_neg (by omega)]
theorem toList_len (K : ByteArray) : K.toList.length = K.size := by
  rw [ByteArray.toList_eq]
  rfl
theorem toList_ne {K : ByteArray} (h : 1 ≤ K.size) : K.toList.isEmpty = false := by
  cases e : K.toList with
  | nil =>
    have := toList_len K
    rw [e] at this
    simp at this
    omega
  | cons x l => rfl
theorem toList_eq {K : ByteArray} (h : ¬ 1 ≤ K.size) : K.toList.isEmpty = true := by
  rw [List.eq_nil_of_length_eq_zero (l := K.toList) (by rw [toList_len]; omega)]; rfl
set_option maxHeartbeats 4000000 in
theorem two_walk (n0 m0 : Int) (A : Option Addr) (c : Nat) (l : List ByteArray) (w : World) (wf0 : (Lit.int .i64 n0).wf = true) (wf1 : (Lit.int .i64 m0).wf = true) (hl : StrRow w A c l) :
    Calls Try.prog 6 #[(.int .i64 n0), (.int .i64 m0), .slice A l.length c] w fun e w' => e = .returned (.bool true) ∧ Below w.heap.size w w' := by
  have hlm : l.length ≤ 9223372036854775807 := Nat.le_trans hl.cap hl.most
  obtain ⟨x, hx, x1, -⟩ := small n0 1900 (by decide)
  obtain ⟨y, hy, y1, -⟩ := small m0 1900 (by decide)
  replace x1 : (IntKind.u64.wrap n0).tmod 1900 = x := x1
  replace y1 : (IntKind.u64.wrap m0).tmod 1900 = y := y1
  clear wf0 wf1
  by_cases h2 : l.length < 2
  · obtain ⟨ln, hn⟩ : ∃ n, l.length = n := ⟨_, rfl⟩
    rw [hn] at hlm h2 ⊢
    have h2' : (ln : Int) < 2 := by omega
    clear hl hn x1 y1
    go_enter Try.func6, Try.ntmps6
    go_wp2_with fail
    refine (works_calls w).mono ?_
    rintro e w1 ⟨rfl, hc⟩
    have F := Lib.hid (hc.below (B := w.heap.size) (Nat.le_refl _) fun _ h => h.elim)
    clear hc
    go_wp2_with fail
    go_ret
    exact ⟨rfl, F.out⟩
  · obtain ⟨ad, rfl, k0⟩ := hl.cell 0 (by omega)
    obtain ⟨ad', e', k1⟩ := hl.cell 1 (by omega)
    cases e'
    rw [add_zero] at k0
    rw [add_one] at k1
    obtain ⟨ln, hn⟩ : ∃ n, l.length = n := ⟨_, rfl⟩
    have s0 := hl.size 0 (by omega)
    have s1 := hl.size 1 (by omega)
    rw [hn] at hlm h2 ⊢
    obtain ⟨K, hK⟩ : ∃ K, l.getD 0 ByteArray.empty = K := ⟨_, rfl⟩
    obtain ⟨J, hJ⟩ : ∃ J, l.getD 1 ByteArray.empty = J := ⟨_, rfl⟩
    rw [hK] at k0 s0
    rw [hJ] at k1 s1
    have h2' : ¬ (ln : Int) < 2 := by omega
    have i0 : (0 : Int) < ln := by omega
    have i1 : (1 : Int) < ln := by omega
    clear hl hn hK hJ
    go_enter Try.func6, Try.ntmps6
    go_wp2_with fail
    refine (works_calls w).mono ?_
    rintro e w1 ⟨rfl, hc⟩
    have C1 := Lib.hid hc
    have k0' := hc.cell k0 id
    have k1' := hc.cell k1 id
    clear hc
    by_cases hg : 1 ≤ K.size ∧ K.size ≤ 32 ∧ 1 ≤ J.size ∧ J.size ≤ 32
    · obtain ⟨g1, g2, g3, g4⟩ := hg
      have a1 : ¬ (32 : Int) < K.size := by omega
      have a2 : ¬ (32 : Int) < J.size := by omega
      have z0 := toList_ne g1
      have z1 := toList_ne g3
      go_wp2_with fail
      refine (made_calls 5 w1 5 (by decide) small5.1 small5.2).mono ?_
      rintro e w4 ⟨a, r, rfl, T⟩
      have H4 := Lib.hid T.here
      have PB4 : Hid (∀ b ∈ a.pb, b < w4.heap.size) := T.here.lt.2.2
      have C4 : Hid (Chg (fun _ => False) w1 w4) := T.here.chg.mono fun b h1 h2 => by omega
      have k0'' := C4.out.cell k0' id
      have k1'' := C4.out.cell k1' id
      clear T k0' k1' k0 k1
      go_wp2_with fail
      have SL : Hid (Sl (w4.alloc (.cells #[(.int .i64 64), (.int .i64 1024)] 3)) .i64 (some ⟨w4.heap.size, 0, none⟩) [64, 1024]) := sl_lit w4 .i64 [64, 1024] 3 (0, 0)
      have CT : Chg (fun _ => False) w4 (w4.alloc (.cells #[(.int .i64 64), (.int .i64 1024)] 3)) := Chg.alloc _ _ _
      have H5 := Lib.hid (H4.out.fresh CT)
      have q0 := CT.cell k0'' id
      have q1 := CT.cell k1'' id
      clear k0'' k1'' CT H4
      have PBL : Hid (∀ b ∈ a.pb, b < w4.heap.size) := H5.out.lt.2.2 |> fun _ b hb => PB4.out b hb
      have tlt : Hid (w4.heap.size < (w4.alloc (.cells #[(.int .i64 64), (.int .i64 1024)] 3)).heap.size) := by show _ < _; rw [World.size_alloc]; omega
      generalize w4.alloc (.cells #[(.int .i64 64), (.int .i64 1024)] 3) = w5 at H5 q0 q1 SL tlt ⊢
      generalize w4.heap.size = tb at SL tlt PBL ⊢
      go_cut [11] (fun p wx => ∃ xb, p = .pointer (some ⟨xb, 0, none⟩) ∧ Hid (w5.heap.size ≤ xb) ∧ Hid (wx.heap[xb]? = some (.cells #[.string K, .string (zeroS x), .int .u32 0, .int .u32 0, .int .u64 1] 36 (0, 0))) ∧ Hid (Chg (fun _ => False) w5 wx))
      case rest =>
        obtain ⟨xb, rfl, xlt, XB6, C6⟩ := hcut
        have c6 : Chg (fun _ => False) w5 wc := C6.out
        have q2 := c6.cell q1 id
        have H6 := Lib.hid (H5.out.fresh c6)
        have S6 : Hid (Sl wc .i64 (some ⟨tb, 0, none⟩) [64, 1024]) := SL.out.chg (S := fun _ => False) c6 fun _ _ h => h
        clear H5 SL q0 q1 C6 c6
        obtain ⟨w6, e6⟩ : ∃ w6, w6 = wc := ⟨_, rfl⟩
        subst e6
        go_wp2_with fail
        go_cut [12] (fun p wx => ∃ yb, p = .pointer (some ⟨yb, 0, none⟩) ∧ Hid (w6.heap.size ≤ yb) ∧ Hid (wx.heap[yb]? = some (.cells #[.string J, .string (zeroS y), .int .u32 0, .int .u32 0, .int .u64 2] 36 (0, 0))) ∧ Hid (Chg (fun _ => False) w6 wx))
        case rest =>
          obtain ⟨yb, rfl, ylt, YB7, C7⟩ := hcut
          have c7 : Chg (fun _ => False) w6 wc := C7.out
          have XB7 := c7.keep XB6.out id
          have H7 := Lib.hid (H6.out.fresh c7)
          have S7 : Hid (Sl wc .i64 (some ⟨tb, 0, none⟩) [64, 1024]) := S6.out.chg (S := fun _ => False) c7 fun _ _ h => h
          obtain ⟨w7, e7⟩ : ∃ w7, w7 = wc := ⟨_, rfl⟩
          subst e7
          have NX := need_small (k := K.size) (v := (zeroS x).size) ⟨g1, g2⟩ (by rw [zeroS_size]; exact hx)
          have NY := need_small (k := J.size) (v := (zeroS y).size) ⟨g3, g4⟩ (by rw [zeroS_size]; exact hy)
          have ZX : Hid ((zeroS x).size < 1900) := by show _ < _; rw [zeroS_size]; exact hx
          have ZY : Hid ((zeroS y).size < 1900) := by show _ < _; rw [zeroS_size]; exact hy
          have TBO : Hid (tb ∉ a.pb ∧ xb ∉ a.pb ∧ yb ∉ a.pb) := ⟨fun h => by have := PBL.out _ h; omega, fun h => by have := PBL.out _ h; have := tlt.out; have := xlt.out; omega, fun h => by have := PBL.out _ h; have := tlt.out; have := xlt.out; have := blk_lt XB6.out; have := ylt.out; omega⟩
          generalize zeroS x = V at NX ZX XB7
          generalize zeroS y = U at NY ZY YB7
          have XBH := Lib.hid XB7
          have YB7' := YB7.out
          have x0 : w7.cell? ⟨xb, 0, none⟩ = some (.string K) := by rw [blk_cell XB7]; rfl
          have x1 : w7.cell? ⟨xb, 1, none⟩ = some (.string V) := by rw [blk_cell XB7]; rfl
          have y0 : w7.cell? ⟨yb, 0, none⟩ = some (.string J) := by rw [blk_cell YB7']; rfl
          have y1 : w7.cell? ⟨yb, 1, none⟩ = some (.string U) := by rw [blk_cell YB7']; rfl
          have x2 : w7.cell? ⟨xb, 2, none⟩ = some (.int .u32 0) := by rw [blk_cell XB7]; rfl
          have x3 : w7.cell? ⟨xb, 3, none⟩ = some (.int .u32 0) := by rw [blk_cell XB7]; rfl
          have x4 : w7.cell? ⟨xb, 4, none⟩ = some (.int .u64 1) := by rw [blk_cell XB7]; rfl
          have y2 : w7.cell? ⟨yb, 2, none⟩ = some (.int .u32 0) := by rw [blk_cell YB7']; rfl
          have y3 : w7.cell? ⟨yb, 3, none⟩ = some (.int .u32 0) := by rw [blk_cell YB7']; rfl
          have y4 : w7.cell? ⟨yb, 4, none⟩ = some (.int .u64 2) := by rw [blk_cell YB7']; rfl
          obtain ⟨ci, m, tc, e1, c12, m11, htc, ht2, hall⟩ := NX
          obtain ⟨di, q, td, e2, d12, q11, htd, ht3, hall2⟩ := NY
          have TR : Hid (∀ x ∈ [64, (1024 : Int)], -9223372036854775808 ≤ x ∧ x ≤ 9223372036854775807) := fun x hx => by
            simp only [List.mem_cons, List.not_mem_nil, or_false] at hx
            rcases hx with rfl | rfl <;> decide
          have N1 := fun W (h : Chg (fun _ => False) w7 W) => need_calls (some ⟨tb, 0, none⟩) 2 [64, 1024] K.size V.size W (S7.out.chg (S := fun _ => False) h fun _ _ h => h) (by simp) TR.out
          have N2 := fun W (h : Chg (fun _ => False) w7 W) => need_calls (some ⟨tb, 0, none⟩) 2 [64, 1024] J.size U.size W (S7.out.chg (S := fun _ => False) h fun _ _ h => h) (by simp) TR.out
          rw [e1] at N1
          rw [e2] at N2
          replace N1 := Lib.hid N1
          replace N2 := Lib.hid N2
          replace e1 := Lib.hid e1
          replace e2 := Lib.hid e2
          replace htc := Lib.hid htc
          replace htd := Lib.hid htd
          replace ht2 := Lib.hid ht2
          replace ht3 := Lib.hid ht3
          replace hall := Lib.hid hall
          replace hall2 := Lib.hid hall2
          have mq : ¬ (4 : Int) < (m : Int) + (q : Int) := by omega
          clear XB7 YB7' XB6 C7 c7 S6 H6 q2
          go_wp2_with fail
          refine (N1.out _ (Chg.refl _ _)).mono ?_
          rintro e w8 ⟨rfl, hd⟩
          have C8 : Hid (Chg (fun _ => False) w7 w8) := hd.chg _
          have y0' := C8.out.cell y0 id
          have y1' := C8.out.cell y1 id
          clear hd N1
          go_wp2_with fail
          refine (N2.out _ C8.out).mono ?_
          rintro e w9 ⟨rfl, hd⟩
          have C9 : Hid (Chg (fun _ => False) w7 w9) := C8.out.trans (hd.chg _)
          clear hd N2 y0' y1' C8
          go_wp2_with fail
          have CL : Chg (fun _ => False) w7 ((w9.alloc (.cells #[(.int .i64 0), (.int .i64 2048), (.int .i64 4096)] 3)).alloc (.cells #[(.int .i64 1024), (.int .i64 3072), (.int .i64 5120)] 3)) := C9.out.trans ((Chg.alloc _ _ _).trans (Chg.alloc _ _ _))
          have SA : Sl ((w9.alloc (.cells #[(.int .i64 0), (.int .i64 2048), (.int .i64 4096)] 3)).alloc (.cells #[(.int .i64 1024), (.int .i64 3072), (.int .i64 5120)] 3)) .i64 (some ⟨w9.heap.size, 0, none⟩) [0, 2048, 4096] := (sl_lit w9 .i64 [0, 2048, 4096] 3 (0, 0)).chg (Chg.alloc (fun _ => False) _ (.cells #[(.int .i64 1024), (.int .i64 3072), (.int .i64 5120)] 3)) fun _ _ h => h
          have SB := sl_lit (w9.alloc (.cells #[(.int .i64 0), (.int .i64 2048), (.int .i64 4096)] 3)) .i64 [1024, 3072, 5120] 3 (0, 0)
          rw [World.size_alloc] at SB
          replace SB : Sl ((w9.alloc (.cells #[(.int .i64 0), (.int .i64 2048), (.int .i64 4096)] 3)).alloc (.cells #[(.int .i64 1024), (.int .i64 3072), (.int .i64 5120)] 3)) .i64 (some ⟨w9.heap.size + 1, 0, none⟩) [1024, 3072, 5120] := SB
          obtain ⟨v1, R1, P1, O1⟩ := SlV.toB Try.underlying27 elem_int (SlV.of (n := 3) (c := 3) SA rfl (by decide) (by decide) (fun h => by cases h)) (m + 1) (by simp; omega)
          obtain ⟨v2, R2, P2, O2⟩ := SlV.toB Try.underlying27 elem_int (SlV.of (n := 3) (c := 3) SB rfl (by decide) (by decide) (fun h => by cases h)) (q + 1) (by simp; omega)
          rw [twoL_cut0 m11] at P1
          rw [twoL_cut1 q11] at P2
          simp only [Int.natCast_add, Int.natCast_one] at R1 R2
          have W9 : Hid (∀ b ∈ a.pb, b < w9.heap.size) := fun b hb => by have := PBL.out b hb; have := H7.out.lt.2.2 b hb; have := C9.out.size; omega
          replace O1 : Hid (∀ A n c, v1 = .slice A n c → ∀ ad, A = some ad → ad.block ∉ a.pb) := fun A n c e ad e2 hb => by
            subst e e2
            have h1 := O1 ad.block rfl
            have h2 : w9.heap.size = ad.block := by injection h1
            have := W9.out _ hb
            omega
          replace O2 : Hid (∀ A n c, v2 = .slice A n c → ∀ ad, A = some ad → ad.block ∉ a.pb) := fun A n c e ad e2 hb => by
            subst e e2
            have h1 := O2 ad.block rfl
            have h2 : w9.heap.size + 1 = ad.block := by injection h1
            have := W9.out _ hb
            omega
          replace P1 := Lib.hid P1
          replace P2 := Lib.hid P2
          clear SA SB W9
          have ws1 : IntKind.i64.wrap ((m : Int) + 1) = (m : Int) + 1 := IntWalk.i64_in _ (by omega)
          have ws2 : IntKind.i64.wrap ((q : Int) + 1) = (q : Int) + 1 := IntWalk.i64_in _ (by omega)
          generalize (w9.alloc (.cells #[(.int .i64 0), (.int .i64 2048), (.int .i64 4096)] 3)).alloc (.cells #[(.int .i64 1024), (.int .i64 3072), (.int .i64 5120)] 3) = w11 at CL P1 P2 ⊢
          have H11 : Hid (Here w1.heap.size w1 w11 a (madeS 7)) := H7.out.fresh CL
          have S11 : Hid (Sl w11 .i64 (some ⟨tb, 0, none⟩) [64, 1024]) := S7.out.chg (S := fun _ => False) CL fun _ _ h => h
          have X11 := Lib.hid (CL.keep XBH.out id)
          have Y11 := Lib.hid (CL.keep YB7.out id)
          replace x0 := CL.cell x0 id
          replace x1 := CL.cell x1 id
          replace x2 := CL.cell x2 id
          replace x3 := CL.cell x3 id
          replace x4 := CL.cell x4 id
          replace y0 := CL.cell y0 id
          replace y1 := CL.cell y1 id
          replace y2 := CL.cell y2 id
          replace y3 := CL.cell y3 id
          replace y4 := CL.cell y4 id
          clear CL C9 H7 S7 XBH YB7
          have ho1 : Hid (offV tc (bs K).length (bs V).length (twoL 0 m).length = (bs V).length) := off_two m11 (q := 0) ht2.out hall.out
          have ho2 : Hid (offV td (bs J).length (bs U).length (twoL 1 q).length = (bs U).length) := off_two q11 (q := 1) ht3.out hall2.out
          have F1 : Hid (Fine (madeS 7) tc (twoL 0 m) (bs K) (bs V) 0 0 1) := fine_two H11.out.lies.ok made7_own (q := 0) (by decide) m11 ⟨g1, g2⟩ ZX.out ht2.out (by decide)
          have WO1 : Hid (∀ W, Chg (fun _ => False) w11 W → Calls Try.prog 17 #[(.pointer (some ⟨a.g, 0, none⟩)), .slice (some ⟨tb, 0, none⟩) 2 2, v1, .agg #[.string K, .string V, .int .u32 0, .int .u32 0, .int .u64 1]] W (WEnd W a (madeS 7) tc (twoL 0 m) K V 0 0 1)) := fun W hW =>
            write_ok (H11.out.fresh hW).lies [64, 1024] (some ⟨tb, 0, none⟩) 2 (S11.out.chg (S := fun _ => False) hW fun _ _ h => h) (by simp) TR.out (twoL 0 m) v1 (P1.out.chg hW) K V 0 0 1 ci m tc e1.out c12 htc.out (by rw [twoL_len m11]; omega)
              (fun ad e hb => by injection e with e; subst e; exact TBO.out.1 hb) O1.out F1.out ho1.out
          have WO2 : Hid (∀ W t, Chg (· ∈ a.pb) w11 W → Lies W a t → t.own = (madeS 7).own → Calls Try.prog 17 #[(.pointer (some ⟨a.g, 0, none⟩)), .slice (some ⟨tb, 0, none⟩) 2 2, v2, .agg #[.string J, .string U, .int .u32 0, .int .u32 0, .int .u64 2]] W (WEnd W a t td (twoL 1 q) J U 0 0 2)) := fun W t hW hl hown =>
            write_ok hl [64, 1024] (some ⟨tb, 0, none⟩) 2 (S11.out.chg hW fun ad e hb => by injection e with e; subst e; exact TBO.out.1 hb) (by simp) TR.out (twoL 1 q) v2 (P2.out.off hW fun g hg hb => by
                obtain ⟨A, cc, e, -⟩ := P2.out.v
                cases A with
                | none => rw [e] at hg; cases hg
                | some ad => rw [e] at hg; have : ad.block = g := by injection hg
                             subst this; exact O2.out _ _ _ e ad rfl hb) J U 0 0 2 di q td e2.out d12 htd.out (by rw [twoL_len q11]; omega)
              (fun ad e hb => by injection e with e; subst e; exact TBO.out.1 hb) O2.out (fine_two hl.ok (hown.trans made7_own) (q := 1) (by decide) q11 ⟨g3, g4⟩ ZY.out ht3.out (by decide)) ho2.out
          go_region_held3 (fun w' => w'.cell? ⟨xb, 0, none⟩ = some (.string K) ∧ w'.cell? ⟨xb, 1, none⟩ = some (.string V) ∧ w'.cell? ⟨xb, 2, none⟩ = some (.int .u32 0) ∧ w'.cell? ⟨xb, 3, none⟩ = some (.int .u32 0) ∧ w'.cell? ⟨xb, 4, none⟩ = some (.int .u64 1) ∧ w'.cell? ⟨yb, 0, none⟩ = some (.string J) ∧ w'.cell? ⟨yb, 1, none⟩ = some (.string U) ∧ w'.cell? ⟨yb, 2, none⟩ = some (.int .u32 0) ∧ w'.cell? ⟨yb, 3, none⟩ = some (.int .u32 0) ∧ w'.cell? ⟨yb, 4, none⟩ = some (.int .u64 2)) (go_keep)
            (first
              | (go_at_call 17; refine (WO2.out _ _ C12.out L12.out K12.out.lay.own).mono ?_; rintro e' w13 ⟨t2, rfl, l13, k13, -, c13⟩; have x0'' := c13.cell x0' TBO.out.2.1; have x1'' := c13.cell x1' TBO.out.2.1; have x2'' := c13.cell x2' TBO.out.2.1; have x3'' := c13.cell x3' TBO.out.2.1; have x4'' := c13.cell x4' TBO.out.2.1; have y0'' := c13.cell y0' TBO.out.2.2; have y1'' := c13.cell y1' TBO.out.2.2; have y2'' := c13.cell y2' TBO.out.2.2; have y3'' := c13.cell y3' TBO.out.2.2; have y4'' := c13.cell y4' TBO.out.2.2; have C13 : Hid (Chg (· ∈ a.pb) w11 w13) := C12.out.trans c13; have L13 := Lib.hid l13; have K13 := Lib.hid k13; clear c13 l13 k13; skip)
              | (go_at_call 17; refine (WO1.out _ (Chg.drew _ w11)).mono ?_; rintro e' w12 ⟨t, rfl, l12, k12, -, c12⟩; have x0' := c12.cell (show (World.drew w11).cell? _ = _ from x0) TBO.out.2.1; have x1' := c12.cell (show (World.drew w11).cell? _ = _ from x1) TBO.out.2.1; have x2' := c12.cell (show (World.drew w11).cell? _ = _ from x2) TBO.out.2.1; have x3' := c12.cell (show (World.drew w11).cell? _ = _ from x3) TBO.out.2.1; have x4' := c12.cell (show (World.drew w11).cell? _ = _ from x4) TBO.out.2.1; have y0' := c12.cell (show (World.drew w11).cell? _ = _ from y0) TBO.out.2.2; have y1' := c12.cell (show (World.drew w11).cell? _ = _ from y1) TBO.out.2.2; have y2' := c12.cell (show (World.drew w11).cell? _ = _ from y2) TBO.out.2.2; have y3' := c12.cell (show (World.drew w11).cell? _ = _ from y3) TBO.out.2.2; have y4' := c12.cell (show (World.drew w11).cell? _ = _ from y4) TBO.out.2.2; have C12 : Hid (Chg (· ∈ a.pb) w11 w12) := (Chg.drew _ w11).trans c12; have L12 := Lib.hid l12; have K12 := Lib.hid k12; clear c12 l12 k12; skip))
          all_goals clear x0 x1 x2 x3 x4 y0 y1 y2 y3 y4
          all_goals
            (have X13 := C13.out.keep X11.out TBO.out.2.1
             have Y13 := C13.out.keep Y11.out TBO.out.2.2
             have S13 := Lib.hid (S11.out.chg C13.out fun ad e hb => by injection e with e; subst e; exact TBO.out.1 hb)
             have H13 := Lib.hid (H11.out.now L13.out C13.out)
             have I2 := Lib.hid (Fine.read (fine_two L12.out.ok (K12.out.lay.own.trans made7_own) (q := 1) (by decide) q11 ⟨g3, g4⟩ ZY.out ht3.out (by decide)) ho2.out K13.out)
             have I1 := Lib.hid (two_frame (Fine.read F1.out ho1.out K12.out) ht2.out.2.2 ht3.out.2.2 K13.out)
             replace X13 := Lib.hid X13
             replace Y13 := Lib.hid Y13
             clear x0' x1' x2' x3' x4' y0' y1' y2' y3' y4' x0'' x1'' x2'' x3'' x4'' y0'' y1'' y2'' y3'' y4'' WO1 WO2 F1 ho1 ho2 K12 K13 L12 L13 C12 R1 R2 X11 Y11 H11 S11 P1 P2 O1 O2)
          have D1 : Hid (∀ W, Chg (fun _ => False) w13 W → Calls Try.prog 19 #[(.pointer (some ⟨a.g, 0, none⟩)), .slice (some ⟨tb, 0, none⟩) 2 2, (.int .i64 0)] W fun e w' => e = .returned (.tuple #[.agg #[.string K, .string V, .int .u32 0, .int .u32 0, .int .u64 1], .int .i64 0]) ∧ Chg (fun _ => False) W w') := fun W hW => by
            have RD := read_ok (H13.out.fresh hW).lies I1.out [64, 1024] (some ⟨tb, 0, none⟩) 2 (S13.out.chg (S := fun _ => False) hW fun _ _ h => h) (by simp) TR.out ci m (by rw [bs_length, bs_length]; exact e1.out) c12 htc.out ht2.out.2.2 (by rw [twoL_len m11]; omega)
            unfold rdV at RD
            rw [str_bs, str_bs, twoL_0] at RD
            exact RD
          have D2 : Hid (∀ W, Chg (fun _ => False) w13 W → Calls Try.prog 19 #[(.pointer (some ⟨a.g, 0, none⟩)), .slice (some ⟨tb, 0, none⟩) 2 2, (.int .i64 1024)] W fun e w' => e = .returned (.tuple #[.agg #[.string J, .string U, .int .u32 0, .int .u32 0, .int .u64 2], .int .i64 0]) ∧ Chg (fun _ => False) W w') := fun W hW => by
            have RD := read_ok (H13.out.fresh hW).lies I2.out [64, 1024] (some ⟨tb, 0, none⟩) 2 (S13.out.chg (S := fun _ => False) hW fun _ _ h => h) (by simp) TR.out di q (by rw [bs_length, bs_length]; exact e2.out) d12 htd.out ht3.out.2.2 (by rw [twoL_len q11]; omega)
            unfold rdV at RD
            rw [str_bs, str_bs, twoL_0] at RD
            exact RD
          have F13 : Hid (Chg (fun b => w.heap.size ≤ b) w w13) := ((C1.out.mono (T := fun b => w.heap.size ≤ b) fun _ _ h => h.elim).trans (H13.out.chg.mono fun b _ hb => Nat.le_trans C1.out.size hb))
          clear H13 S13 I1 I2 e1 e2 hall hall2 ht2 ht3 htc htd C13
          go_wp2_with fail
          refine (D1.out _ (Chg.refl _ _)).mono ?_
          rintro e' w14 ⟨rfl, c14⟩
          replace c14 := Lib.hid c14
          go_wp2_with fail
          have c15 := c14.out.trans (Chg.alloc (fun _ => False) w14 (.cells #[.string K, .string V, .int .u32 0, .int .u32 0, .int .u64 1] 36))
          have Y1 := heap_alloc_at w14 (.cells #[.string K, .string V, .int .u32 0, .int .u32 0, .int .u64 1] 36)
          generalize w14.alloc (.cells #[.string K, .string V, .int .u32 0, .int .u32 0, .int .u64 1] 36) = w15 at c15 Y1 ⊢
          generalize w14.heap.size = ub at Y1 ⊢
          replace c15 := Lib.hid c15
          replace Y1 := Lib.hid Y1
          clear D1 c14
          refine (D2.out _ c15.out).mono ?_
          rintro e' w16 ⟨rfl, c16⟩
          replace c16 := Lib.hid c16
          have c17 := c16.out.trans (Chg.alloc (fun _ => False) w16 (.cells #[.string J, .string U, .int .u32 0, .int .u32 0, .int .u64 2] 36))
          have XF := (c15.out.trans c17).keep X13.out id
          have YF := (c15.out.trans c17).keep Y13.out id
          have UF := c17.keep Y1.out id
          have F17 := Lib.hid ((F13.out.trans ((c15.out.trans c17).mono fun _ _ h => h.elim)).below (B := w.heap.size) (Nat.le_refl _) fun _ h => h)
          have x0 : (w16.alloc (.cells #[.string J, .string U, .int .u32 0, .int .u32 0, .int .u64 2] 36)).cell? ⟨xb, 0, none⟩ = some (.string K) := by rw [blk_cell XF]; rfl
          have x1 : (w16.alloc (.cells #[.string J, .string U, .int .u32 0, .int .u32 0, .int .u64 2] 36)).cell? ⟨xb, 1, none⟩ = some (.string V) := by rw [blk_cell XF]; rfl
          have x2 : (w16.alloc (.cells #[.string J, .string U, .int .u32 0, .int .u32 0, .int .u64 2] 36)).cell? ⟨xb, 2, none⟩ = some (.int .u32 0) := by rw [blk_cell XF]; rfl
          have x3 : (w16.alloc (.cells #[.string J, .string U, .int .u32 0, .int .u32 0, .int .u64 2] 36)).cell? ⟨xb, 3, none⟩ = some (.int .u32 0) := by rw [blk_cell XF]; rfl
          have x4 : (w16.alloc (.cells #[.string J, .string U, .int .u32 0, .int .u32 0, .int .u64 2] 36)).cell? ⟨xb, 4, none⟩ = some (.int .u64 1) := by rw [blk_cell XF]; rfl
          have y0 : (w16.alloc (.cells #[.string J, .string U, .int .u32 0, .int .u32 0, .int .u64 2] 36)).cell? ⟨yb, 0, none⟩ = some (.string J) := by rw [blk_cell YF]; rfl
          have y1 : (w16.alloc (.cells #[.string J, .string U, .int .u32 0, .int .u32 0, .int .u64 2] 36)).cell? ⟨yb, 1, none⟩ = some (.string U) := by rw [blk_cell YF]; rfl
          have y2 : (w16.alloc (.cells #[.string J, .string U, .int .u32 0, .int .u32 0, .int .u64 2] 36)).cell? ⟨yb, 2, none⟩ = some (.int .u32 0) := by rw [blk_cell YF]; rfl
          have y3 : (w16.alloc (.cells #[.string J, .string U, .int .u32 0, .int .u32 0, .int .u64 2] 36)).cell? ⟨yb, 3, none⟩ = some (.int .u32 0) := by rw [blk_cell YF]; rfl
          have y4 : (w16.alloc (.cells #[.string J, .string U, .int .u32 0, .int .u32 0, .int .u64 2] 36)).cell? ⟨yb, 4, none⟩ = some (.int .u64 2) := by rw [blk_cell YF]; rfl
          have u0 : (w16.alloc (.cells #[.string J, .string U, .int .u32 0, .int .u32 0, .int .u64 2] 36)).cell? ⟨ub, 0, none⟩ = some (.string K) := by rw [blk_cell UF]; rfl
          have u1 : (w16.alloc (.cells #[.string J, .string U, .int .u32 0, .int .u32 0, .int .u64 2] 36)).cell? ⟨ub, 1, none⟩ = some (.string V) := by rw [blk_cell UF]; rfl
          have u2 : (w16.alloc (.cells #[.string J, .string U, .int .u32 0, .int .u32 0, .int .u64 2] 36)).cell? ⟨ub, 2, none⟩ = some (.int .u32 0) := by rw [blk_cell UF]; rfl
          have u3 : (w16.alloc (.cells #[.string J, .string U, .int .u32 0, .int .u32 0, .int .u64 2] 36)).cell? ⟨ub, 3, none⟩ = some (.int .u32 0) := by rw [blk_cell UF]; rfl
          have u4 : (w16.alloc (.cells #[.string J, .string U, .int .u32 0, .int .u32 0, .int .u64 2] 36)).cell? ⟨ub, 4, none⟩ = some (.int .u64 1) := by rw [blk_cell UF]; rfl
          clear XF YF UF c16 c17 D2
          go_wp2_with fail
          go_ret
          exact ⟨rfl, F17.out⟩
        have MK := fun W => make_bytes y (by omega) W
        have V1 := convA y w6
        have V2 := fun o => convB y w6 o
        have V3 := fun o => convC y w6 o
        have L1 : ∀ o1 o2, (World.drew ((w6.alloc o1).alloc o2)).cell? ⟨ad.block, ad.off + 1, none⟩ = some (.string J) := fun o1 o2 => ((Chg.alloc (fun _ => False) w6 o1).trans ((Chg.alloc _ _ o2).trans (Chg.drew _ _))).cell q2 id
        have L2 : ∀ o1, (World.drew (w6.alloc o1)).cell? ⟨ad.block, ad.off + 1, none⟩ = some (.string J) := fun o1 => ((Chg.alloc (fun _ => False) w6 o1).trans (Chg.drew _ _)).cell q2 id
        go_region
        all_goals go_wp2_with fail
        all_goals go_meet
        · exact ⟨_, rfl, Nat.le_succ _, by
            have := heap_alloc_at (w6.alloc (zeros y)) (.cells #[.string J, .string (zeroS y), .int .u32 0, .int .u32 0, .int .u64 2] 36)
            rw [World.size_alloc] at this
            exact this, (Chg.alloc _ _ _).trans ((Chg.alloc _ _ _).trans (Chg.drew _ _))⟩
        · exact ⟨_, rfl, Nat.le_refl _, (Chg.alloc (fun _ => False) _ (zeros y)).keep (heap_alloc_at w6 (.cells #[.string J, .string (zeroS y), .int .u32 0, .int .u32 0, .int .u64 2] 36)) id, (Chg.alloc _ _ _).trans ((Chg.alloc _ _ _).trans (Chg.drew _ _))⟩
      have MK := fun W => make_bytes x (by omega) W
      have V1 := convA x w5
      have V2 := fun o => convB x w5 o
      have V3 := fun o => convC x w5 o
      have L1 : ∀ o1 o2, (World.drew ((w5.alloc o1).alloc o2)).cell? ad = some (.string K) := fun o1 o2 => ((Chg.alloc (fun _ => False) w5 o1).trans ((Chg.alloc _ _ o2).trans (Chg.drew _ _))).cell q0 id
      have L2 : ∀ o1, (World.drew (w5.alloc o1)).cell? ad = some (.string K) := fun o1 => ((Chg.alloc (fun _ => False) w5 o1).trans (Chg.drew _ _)).cell q0 id
      go_region
      all_goals go_wp2_with fail
      all_goals go_meet
      · exact ⟨_, rfl, Nat.le_succ _, by
          have := heap_alloc_at (w5.alloc (zeros x)) (.cells #[.string K, .string (zeroS x), .int .u32 0, .int .u32 0, .int .u64 1] 36)
          rw [World.size_alloc] at this
          exact this, (Chg.alloc _ _ _).trans ((Chg.alloc _ _ _).trans (Chg.drew _ _))⟩
      · exact ⟨_, rfl, Nat.le_refl _, (Chg.alloc (fun _ => False) _ (zeros x)).keep (heap_alloc_at w5 (.cells #[.string K, .string (zeroS x), .int .u32 0, .int .u32 0, .int .u64 1] 36)) id, (Chg.alloc _ _ _).trans ((Chg.alloc _ _ _).trans (Chg.drew _ _))⟩
    · have F := Lib.hid (C1.out.below (B := w.heap.size) (Nat.le_refl _) fun _ h => h.elim)
      by_cases a1 : 32 < K.size
      · have a1' : (32 : Int) < K.size := by omega
        clear hg
        go_wp2_with fail
        go_ret
        exact ⟨rfl, F.out⟩
      · have a1' : ¬ (32 : Int) < K.size := by omega
        by_cases a2 : 32 < J.size
        · have a2' : (32 : Int) < J.size := by omega
          clear hg
          go_wp2_with fail
          go_ret
          exact ⟨rfl, F.out⟩
        · have a2' : ¬ (32 : Int) < J.size := by omega
          by_cases b1 : 1 ≤ K.size
          · have z0 := toList_ne b1
            have z1 := toList_eq (K := J) (fun h => hg ⟨b1, by omega, h, by omega⟩)
            clear hg
            go_wp2_with fail
            go_ret
            exact ⟨rfl, F.out⟩
          · have z0 := toList_eq b1
            clear hg
            go_wp2_with fail
            go_ret
            exact ⟨rfl, F.out⟩
end Go.Proofs.Ytolpjgpimholcaa.Item

