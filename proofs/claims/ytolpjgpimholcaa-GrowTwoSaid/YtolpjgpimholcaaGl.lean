import Derived.Test.YtolpjgpimholcaaGf
import Derived.Test.YtolpjgpimholcaaGh
import Derived.Test.YtolpjgpimholcaaGd
import Derived.Test.YtolpjgpimholcaaGg
/- Chapter 08's ItemBack in plain words: chunks from the last page down. No program in sight. -/
namespace Go.Proofs.Ytolpjgpimholcaa.Item
open Go Go.RowKit Go.Proofs.Ytolpjgpimholcaa.Mem Go.Proofs.Ytolpjgpimholcaa.CodecPure Go.Proofs.Ytolpjgpimholcaa.ArenaPure Go.Proofs.Ytolpjgpimholcaa.Codec Go.Proofs.Ytolpjgpimholcaa.Arena Go.Proofs.Ytolpjgpimholcaa.NeedPure Go.Proofs.Ytolpjgpimholcaa.Need
set_option linter.unusedVariables false
set_option maxRecDepth 100000
theorem u32_wf {x : Int} (h : (Lit.int .u32 x).wf = true) : 0 ≤ x ∧ x < 4294967296 := by
  have := bounds_u32 h
  omega
theorem u64_wf {x : Int} (h : (Lit.int .u64 x).wf = true) : 0 ≤ x ∧ x < 18446744073709551616 := by
  have := bounds_u64 h
  omega
/-- the first i of the places -/
def backL (m i : Nat) : List Int := (List.range i).map fun j : Nat => 1024 * ((m : Int) - j)
theorem backL_len (m i : Nat) : (backL m i).length = i := by simp [backL]
theorem backL_succ (m i : Nat) : backL m (i + 1) = backL m i ++ [1024 * ((m : Int) - i)] := by
  unfold backL
  rw [List.range_succ, List.map_append]
  rfl
theorem backL_get {m i j : Nat} (h : j < i) : (backL m i).getD j 0 = 1024 * ((m : Int) - j) := by
  unfold backL
  rw [List.getD_eq_getElem?_getD, List.getElem?_map, List.getElem?_range h]
  rfl
theorem backL_mem {m i : Nat} {p : Int} (h : p ∈ backL m i) : ∃ j, j < i ∧ p = 1024 * ((m : Int) - j) := by
  unfold backL at h
  obtain ⟨j, hj, e⟩ := List.mem_map.1 h
  exact ⟨j, List.mem_range.1 hj, e.symm⟩
theorem offV_all {tc kl vl : Int} (h0 : 0 ≤ vl) (h1 : 0 ≤ tc - 40 - kl) (h4 : 0 ≤ tc - 4) : ∀ m : Nat, offV tc kl vl (m + 1) = min vl (tc - 40 - kl + m * (tc - 4))
  | 0 => by
    show min vl (tc - 40 - kl) = _
    rw [show ((0 : Nat) : Int) * (tc - 4) = 0 by rw [Int.natCast_zero, Int.zero_mul], Int.add_zero]
  | m + 1 => by
    show offV tc kl vl (m + 1) + min (vl - offV tc kl vl (m + 1)) (tc - 4) = _
    rw [offV_all h0 h1 h4 m, Int.natCast_add, Int.add_mul, show ((1 : Nat) : Int) * (tc - 4) = tc - 4 by rw [Int.natCast_one, Int.one_mul]]
    have : 0 ≤ (m : Int) * (tc - 4) := Int.mul_nonneg (by omega) h4
    generalize (m : Int) * (tc - 4) = X at *
    omega
theorem made7_own : (madeS 7).own = [1, 1, 1, 1, 1, 1, -1] := by decide +kernel
theorem within7 {s : St} (ho : s.own = [1, 1, 1, 1, 1, 1, -1]) {k : Nat} (hk : k ≤ 5) {n : Int} (h0 : 0 ≤ n) (h1 : n ≤ 1024) : within s (1024 * (k : Int)) n := by
  have e : ((1024 * (k : Int)) / 1024).toNat = k := by omega
  refine ⟨h0, by omega, by rw [ho]; show _ < 1024 * ((7 : Nat) : Int); omega, ?_, by omega⟩
  rw [e, ho]
  have key : ∀ k : Fin 6, (0 : Int) ≤ [1, 1, 1, 1, 1, 1, -1].getD k.val 0 := by decide
  exact key ⟨k, by omega⟩
theorem fine_back {s : St} (hs : Ok s) (ho : s.own = [1, 1, 1, 1, 1, 1, -1]) {m : Nat} (hm : m ≤ 5) {tc : Int} {K V : ByteArray} {fl ex cas : Int} (hk : 1 ≤ K.size ∧ K.size ≤ 32) (hv : V.size ≤ 2000) (ht : 40 + (K.size : Int) ≤ tc ∧ 44 ≤ tc ∧ tc ≤ 1024)
    (hn : ItemArg K V fl ex cas) : Fine s tc (backL m (m + 1)) (bs K) (bs V) ex fl cas := by
  refine ⟨hs, by rw [backL_len]; omega, by rw [bs_length]; exact ht, fun p hp => ?_, fun i j hi hj e => ?_, by rw [backL_len]; omega, by rw [bs_length, bs_length]; omega, ⟨bs_bytes _, bs_bytes _⟩, u32_wf hn.ex, u32_wf hn.fl, u64_wf hn.cas⟩
  · obtain ⟨j, hj, rfl⟩ := backL_mem hp
    have e : ((m : Int) - j) = ((m - j : Nat) : Int) := by omega
    rw [e]
    exact within7 ho (by omega) (by omega) ht.2.2
  · rw [backL_len] at hi hj
    rw [backL_get hi, backL_get hj]
    omega
/-- which class, how many more: what a table of two sizes answers at any lengths -/
theorem need_any {L : Int} (hL : 256 ≤ L ∧ L ≤ 1024) (k v : Nat) :
    (needC [64, L] k v = (0, 0, 1)) ∨ ((1 ≤ k ∧ k ≤ 32 ∧ v ≤ 2000) ∧ ∃ (c m : Nat) (tc : Int), needC [64, L] k v = ((c : Int), (m : Int), 0) ∧ c < 2 ∧ m ≤ 8 ∧ [64, L].getD c 0 = tc ∧ (40 + (k : Int) ≤ tc ∧ 44 ≤ tc ∧ tc ≤ 1024) ∧ 40 + (k : Int) + v ≤ tc + m * (tc - 4)) := by
  by_cases h : k < 1 ∨ 32 < k ∨ 2000 < v
  · left
    unfold needC
    rw [if_pos (by omega)]
  · right
    refine ⟨by omega, ?_⟩
    rcases need_two hL (k := k) (v := v) (by omega) (by omega) with ⟨a, e⟩ | ⟨a, b, e⟩ | ⟨a, b, m, e, m1, m8, a3, a4⟩
    · refine ⟨0, 0, 64, e, by decide, by decide, rfl, by omega, by simp; omega⟩
    · refine ⟨1, 0, L, e, by decide, by decide, rfl, by omega, by simp; omega⟩
    · exact ⟨1, m, L, e, by decide, m8, rfl, by omega, a3⟩
/-- an arena stays where it is while blocks of the call's own turn -/
theorem _root_.Go.Proofs.Ytolpjgpimholcaa.Arena.Here.apart {B : Nat} {w0 w w' : World} {a : Ar} {s : St} {S : Nat → Prop} (h : Here B w0 w a s) (hc : Chg S w w') (hs : ¬ S a.g ∧ ¬ S a.ps ∧ ∀ b ∈ a.pb, ¬ S b) (hB : ∀ x, S x → B ≤ x) : Here B w0 w' a s :=
  ⟨h.lies.chg hc hs.1 hs.2.1 hs.2.2, h.chg.trans (hc.mono fun x _ hx => hB x hx), h.low⟩
theorem _root_.Go.Proofs.Ytolpjgpimholcaa.Arena.Here.lt {B : Nat} {w0 w : World} {a : Ar} {s : St} (h : Here B w0 w a s) : a.g < w.heap.size ∧ a.ps < w.heap.size ∧ ∀ b ∈ a.pb, b < w.heap.size :=
  ⟨blk_lt h.lies.head, World.block_lt_of_cell? w _ (h.lies.row 0 h.lies.ok.low), h.pb_lt⟩
end Go.Proofs.Ytolpjgpimholcaa.Item

/- The walk of the law ItemBack: it returns true at any item. -/
namespace Go.Proofs.Ytolpjgpimholcaa.Item
open Go Go.RowKit Go.Proofs.Ytolpjgpimholcaa.Mem Go.Proofs.Ytolpjgpimholcaa.CodecPure Go.Proofs.Ytolpjgpimholcaa.ArenaPure Go.Proofs.Ytolpjgpimholcaa.Codec Go.Proofs.Ytolpjgpimholcaa.Arena Go.Proofs.Ytolpjgpimholcaa.NeedPure Go.Proofs.Ytolpjgpimholcaa.Need
set_option linter.unusedVariables false
set_option maxRecDepth 100000
theorem from_calls (K V : ByteArray) (fl ex cas : Int) (w : World) : Calls Try.prog 21 #[itemV K V fl ex cas] w fun e w' => e = .returned (itemV K V fl ex cas) ∧ Chg (fun _ => False) w w' := by
  have C : Hid (Chg (fun _ => False) w (w.alloc (.cells #[.string K, .string V, .int .u32 fl, .int .u32 ex, .int .u64 cas] 36))) := Chg.alloc _ _ _
  have hr := heap_alloc2_new w (.cells #[.string K, .string V, .int .u32 fl, .int .u32 ex, .int .u64 cas] 36) (.cells #[.string K, .string V, .int .u32 fl, .int .u32 ex, .int .u64 cas] 25)
  have C2 : Hid (Chg (fun _ => False) w ((w.alloc (.cells #[.string K, .string V, .int .u32 fl, .int .u32 ex, .int .u64 cas] 36)).alloc (.cells #[.string K, .string V, .int .u32 fl, .int .u32 ex, .int .u64 cas] 25))) := C.out.trans (Chg.alloc _ _ _)
  replace hr := Lib.hid hr
  unfold itemV
  go_enter Try.func21, Try.ntmps21
  go_wp2_with fail
  exact bodyPost_ret (v := .agg #[.string K, .string V, .int .u32 fl, .int .u32 ex, .int .u64 cas]) (results_cell_row rfl _ _ (w.heap.size + 1) 25 #[.string K, .string V, .int .u32 fl, .int .u32 ex, .int .u64 cas] (0, 0) _ rfl hr.out Try.underlying25 rfl (by kernel_rfl)) rfl ⟨rfl, C2.out⟩
theorem small5 : (IntKind.u64.wrap 5).tmod 6 = ((5 : Nat) : Int) ∧ IntKind.u64.wrap 5 % 6 = ((5 : Nat) : Int) := by decide
set_option maxHeartbeats 1000000 in
theorem back_walk (K V : ByteArray) (fl ex cas : Int) (n0 : Int) (w : World) (hi : ItemArg K V fl ex cas) (wf1 : (Lit.int .i64 n0).wf = true) :
    Calls Try.prog 3 #[.agg #[.string K, .string V, .int .u32 fl, .int .u32 ex, .int .u64 cas], (.int .i64 n0)] w fun e w' => e = .returned (.bool true) ∧ Below w.heap.size w w' := by
  obtain ⟨l, hl, l1, l2⟩ := small n0 769 (by decide)
  replace l1 : (IntKind.u64.wrap n0).tmod 769 = l := l1
  obtain ⟨L, hL⟩ : ∃ L : Int, 256 + (l : Int) = L := ⟨_, rfl⟩
  have Lr : 256 ≤ L ∧ L ≤ 1024 := by omega
  have N2 := need_any Lr K.size V.size
  have TR := Lib.hid (two_range Lr)
  obtain ⟨Lr1, Lr2⟩ := Lr
  have hk := hi.k
  have hv := hi.v
  have XB := heap_alloc_at w (.cells #[.string K, .string V, .int .u32 fl, .int .u32 ex, .int .u64 cas] 25)
  have C0 := Chg.alloc (fun _ => False) w (.cells #[.string K, .string V, .int .u32 fl, .int .u32 ex, .int .u64 cas] 25)
  clear l2 wf1
  replace N2 := Lib.hid N2
  replace hi := Lib.hid hi
  replace XB := Lib.hid XB
  replace C0 := Lib.hid C0
  go_enter Try.func3, Try.ntmps3
  go_wp2_with fail
  refine (works_calls _).mono ?_
  rintro e w1 ⟨rfl, hc⟩
  have C1 := Lib.hid (C0.out.trans hc)
  have XB1 := hc.keep XB.out id
  clear hc XB C0
  have xlt : Hid (w.heap.size < w1.heap.size) := blk_lt XB1
  obtain ⟨xb, hxb, hx0⟩ : ∃ xb, w.heap.size = xb ∧ w.heap.size ≤ xb := ⟨_, rfl, Nat.le_refl _⟩
  rw [hxb] at XB1 xlt ⊢
  have hlit := sl_lit w1 .i64 [64, L] 3 (0, 0)
  have CL := Chg.alloc (fun _ => False) w1 (.cells #[(.int .i64 64), (.int .i64 L)] 3)
  have XB2 := CL.keep XB1 id
  have C2 := Lib.hid (C1.out.trans CL)
  have c0 : (w1.alloc (.cells #[(.int .i64 64), (.int .i64 L)] 3)).cell? ⟨xb, 0, none⟩ = some (.string K) := by rw [blk_cell XB2]; rfl
  have c1 : (w1.alloc (.cells #[(.int .i64 64), (.int .i64 L)] 3)).cell? ⟨xb, 1, none⟩ = some (.string V) := by rw [blk_cell XB2]; rfl
  have S2 : Hid (Sl (w1.alloc (.cells #[(.int .i64 64), (.int .i64 L)] 3)) .i64 (some ⟨w1.heap.size, 0, none⟩) [64, L]) := hlit
  have lt2 : Hid (w1.heap.size < (w1.alloc (.cells #[(.int .i64 64), (.int .i64 L)] 3)).heap.size) := by show _ < _; rw [World.size_alloc]; omega
  replace XB2 := Lib.hid XB2
  clear hlit CL XB1 C1
  go_wp2_with fail
  generalize w1.alloc (.cells #[(.int .i64 64), (.int .i64 L)] 3) = w2 at C2 XB2 c0 c1 S2 lt2 ⊢
  generalize w1.heap.size = tb at S2 lt2 xlt ⊢
  have NC := need_calls (some ⟨tb, 0, none⟩) 2 [64, L] K.size V.size w2 S2.out (by simp) TR.out
  replace hx0 := Lib.hid hx0
  replace hxb := Lib.hid hxb
  rcases N2.out with e | ⟨⟨k1, k2, v2⟩, c, m, tc, e, c2, m8, htc, htc2, hall⟩
  · rw [e] at NC
    replace NC := Lib.hid NC
    refine NC.out.mono ?_
    rintro e w3 ⟨rfl, hd⟩
    have F := Lib.hid ((C2.out.trans (hd.chg _)).below (B := w.heap.size) (Nat.le_refl _) fun _ h => h.elim)
    clear hd NC N2 c0 c1
    go_wp2_with fail
    go_ret
    exact ⟨rfl, F.out⟩
  · rw [e] at NC
    replace NC := Lib.hid NC
    replace e := Lib.hid e
    replace htc := Lib.hid htc
    replace htc2 := Lib.hid htc2
    replace hall := Lib.hid hall
    clear N2
    by_cases m5 : 5 < m
    · have m5' : (5 : Int) < m := by omega
      refine NC.out.mono ?_
      rintro e w3 ⟨rfl, hd⟩
      have F := Lib.hid ((C2.out.trans (hd.chg _)).below (B := w.heap.size) (Nat.le_refl _) fun _ h => h.elim)
      clear hd NC c0 c1
      go_wp2_with fail
      go_ret
      exact ⟨rfl, F.out⟩
    · have m5' : ¬ (5 : Int) < m := by omega
      refine NC.out.mono ?_
      rintro e w3 ⟨rfl, hd⟩
      have C3 := Lib.hid (C2.out.trans (hd.chg _))
      have XB3 := Lib.hid ((hd.chg (fun _ => False)).keep XB2.out id)
      have S3 := Lib.hid (S2.out.chg (hd.chg (fun _ => False)) fun _ _ => id)
      have lt3 : Hid (tb < w3.heap.size) := Nat.lt_of_lt_of_le lt2.out (hd.chg (fun _ => False)).size
      clear hd NC c0 c1 XB2 S2 lt2 C2
      go_wp2_with fail
      refine (made_calls 5 w3 5 (by decide) small5.1 small5.2).mono ?_
      rintro e w4 ⟨a, r, rfl, T⟩
      have H4 := Lib.hid T.here
      have C4 : Hid (Chg (fun _ => False) w3 w4) := T.here.chg.mono fun b h1 h2 => by omega
      have XB4 := Lib.hid (C4.out.keep XB3.out id)
      have S4 := Lib.hid (S3.out.chg C4.out fun _ _ => id)
      clear T XB3 S3
      go_wp2_with fail
      obtain ⟨B4, hB4⟩ : ∃ B4, w4.heap.size = B4 := ⟨_, rfl⟩
      have AL := H4.out.lt
      rw [hB4] at AL
      have SEP : Hid (¬ B4 ≤ a.g ∧ ¬ B4 ≤ a.ps ∧ ∀ b ∈ a.pb, ¬ B4 ≤ b) := ⟨by omega, by omega, fun b hb h => by have := AL.2.2 b hb; omega⟩
      have TB : Hid (tb < B4 ∧ w3.heap.size ≤ B4 ∧ xb < B4) := ⟨by have := lt3.out; have := C4.out.size; omega, by have := C4.out.size; omega, by have := blk_lt XB4.out; omega⟩
      have HB4 := Lib.hid hB4
      clear AL hB4
      go_loopg [13, 14] (m + 1) (fun g pl i wr => ∃ (k : Nat) (A : Option Addr) (c : Nat), pl = .slice A k c ∧ i = .int .i64 k ∧ g = m + 1 - k ∧ k ≤ m + 1 ∧ Hid (Here w3.heap.size w3 wr a (madeS 7)) ∧ Hid (Mem.Own wr B4 3 .i64 (.slice A k c) (backL m k)) ∧ Hid (Chg (fun b => B4 ≤ b) w4 wr))
      case atStart => exact ⟨0, none, 0, rfl, rfl, rfl, Nat.zero_le _, H4.out, Mem.Own.nil _ _ _ _, Chg.refl _ _⟩
      case round =>
        clear H4
        obtain ⟨k, A, c', rfl, rfl, hg, hkm, H5, O5, C5⟩ := hrel
        replace hg := Lib.hid hg
        by_cases h1 : k ≤ m
        · have h1' : (k : Int) ≤ m := by omega
          obtain ⟨d, hd⟩ : ∃ d : Nat, (m : Int) - (k : Int) = d := ⟨m - k, by omega⟩
          have BS := Lib.hid (backL_succ m k)
          rw [hd] at BS
          have d5 : d ≤ 5 := by omega
          go_wp2_with (at_builtin; refine wpList_app rfl _ _ 27 rfl B4 3 .i64 8 Try.underlying27 infoInt _ (backL m k) rfl (Mem.Own.chg O5.out (Chg.alloc (fun _ => False) wr (.cells #[(.int .i64 (1024 * (d : Int)))] 3)) fun _ _ h => h.elim) (some ⟨wr.heap.size, 0, none⟩) 1 1 [1024 * (d : Int)] rfl rfl (sl_lit wr .i64 [1024 * (d : Int)] 3 (0, 0)) (fun h => by cases h) ?h63 ?hby ?hba ?_; (case h63 => unfold maxLen; rw [backL_len]; omega); (case hby => rw [backL_len]; omega); (case hba => rw [World.size_alloc]; have := C5.out.size; have := HB4.out; omega); intro A' c3 n' w6 hn' ho hc; rw [backL_len] at hn'; subst hn'; rw [← BS.out] at ho; have O6 := Lib.hid ho; have hc2 := (Chg.alloc (fun b => B4 ≤ b) wr (.cells #[(.int .i64 (1024 * (d : Int)))] 3)).trans hc; have C6 := Lib.hid (C5.out.trans hc2); have H6 := Lib.hid (H5.out.apart hc2 SEP.out fun x hx => Nat.le_trans TB.out.2.1 hx); clear ho hc hc2)
          go_roundg (m + 1 - (k + 1))
          case measure => have := hg.out; omega
          case rel => exact ⟨k + 1, _, _, rfl, rfl, rfl, by omega, H6.out, O6.out, C6.out⟩
        · have h1' : ¬ (k : Int) ≤ m := by omega
          have e : k = m + 1 := by omega
          subst e
          have XB5 := C5.out.keep XB4.out (by have := TB.out; omega)
          have x0 : wr.cell? ⟨xb, 0, none⟩ = some (.string K) := by rw [blk_cell XB5]; rfl
          have x1 : wr.cell? ⟨xb, 1, none⟩ = some (.string V) := by rw [blk_cell XB5]; rfl
          have x2 : wr.cell? ⟨xb, 2, none⟩ = some (.int .u32 fl) := by rw [blk_cell XB5]; rfl
          have x3 : wr.cell? ⟨xb, 3, none⟩ = some (.int .u32 ex) := by rw [blk_cell XB5]; rfl
          have x4 : wr.cell? ⟨xb, 4, none⟩ = some (.int .u64 cas) := by rw [blk_cell XB5]; rfl
          have S5 := Lib.hid (S4.out.chg C5.out fun ad e => by injection e with e; subst e; have := TB.out; show ¬ B4 ≤ tb; omega)
          replace XB5 := Lib.hid XB5
          clear hg S4 XB4 C5
          go_wp2_with fail
          refine (to_calls K V fl ex cas wr).mono ?_
          rintro e w6 ⟨rfl, hc⟩
          have H6 := Lib.hid (H5.out.fresh hc)
          have S6 := Lib.hid (S5.out.chg hc fun _ _ => id)
          have XB6 := Lib.hid (hc.keep XB5.out id)
          have O6 := Lib.hid (Mem.Own.chg O5.out hc fun _ _ h => h.elim)
          clear hc H5 S5 XB5 O5 x0 x1 x2 x3 x4
          go_wp2_with fail
          have FB := fine_back (K := K) (V := V) H6.out.lies.ok made7_own (m := m) (by omega) ⟨k1, k2⟩ v2 htc2.out hi.out
          have hoff : offV tc (bs K).length (bs V).length (backL m (m + 1)).length = (bs V).length := by
            have := htc2.out
            have := hall.out
            rw [backL_len, bs_length, bs_length, offV_all (by omega) (by omega) (by omega)]
            omega
          have WO := write_ok H6.out.lies [64, L] (some ⟨tb, 0, none⟩) 2 S6.out (by simp) TR.out (backL m (m + 1)) (.slice A (m + 1) c') (Mem.Own.slv O6.out) K V ex fl cas c m tc e.out c2 htc.out (by rw [backL_len]; omega)
            (fun ad e hb => by injection e with e; subst e; have := H6.out.low.2.2 _ hb; have := lt3.out; exact absurd (show w3.heap.size ≤ tb from ‹w3.heap.size ≤ _›) (by omega))
            (fun A' n c e ad e2 hb => by injection e with e1 _ _; rw [e2] at e1; subst e1; have := (Mem.Own.base O6.out ad rfl).1; exact SEP.out.2.2 _ hb this) FB hoff
          have RI := Lib.hid (fun (t : St) (h : ItemK (madeS 7) t tc (backL m (m + 1)) (bs K) (bs V) ex fl cas (backL m (m + 1)).length) => Fine.read FB hoff h)
          replace WO := Lib.hid WO
          refine WO.out.mono ?_
          rintro e' w7 ⟨t, rfl, l7, k7, -, c7⟩
          have tbo : tb ∉ a.pb := fun hb => by have h1 := H6.out.low.2.2 _ hb; have h2 := lt3.out; omega
          have xbo : xb ∉ a.pb := fun hb => by have h1 := H6.out.low.2.2 _ hb; have h2 := xlt.out; have h3 := lt3.out; omega
          have H7 := Lib.hid (H6.out.now l7 c7)
          have S7 := Lib.hid (S6.out.chg c7 fun ad e => by injection e with e; subst e; exact tbo)
          have XB7 := Lib.hid (c7.keep XB6.out xbo)
          have O7 := Mem.Own.chg O6.out c7 fun g e h => by have := (World.ownsRow.lt O6.out g e).1; exact SEP.out.2.2 _ h this
          have IA := Lib.hid (RI.out t k7)
          obtain ⟨ad, rfl, a0⟩ := O7.sl 0 (by rw [backL_len]; omega)
          rw [add_zero] at a0
          have RD := read_ok H7.out.lies IA.out [64, L] (some ⟨tb, 0, none⟩) 2 S7.out (by simp) TR.out c m (by rw [bs_length, bs_length]; exact e.out) c2 htc.out htc2.out.2.2 (by rw [backL_len]; omega)
          unfold rdV at RD
          rw [str_bs, str_bs] at RD
          have PL := Lib.hid (fun W (h : Lies W a t) => places_calls h IA.out)
          obtain ⟨p0, hp0⟩ : ∃ p0, (backL m (m + 1)).getD 0 0 = p0 := ⟨_, rfl⟩
          rw [hp0] at a0 RD PL
          have m0 : (0 : Int) < (m : Int) + 1 := by omega
          replace RD := Lib.hid RD
          replace O7 := Lib.hid O7
          clear hp0 l7 k7 c7 WO RI FB hoff H6 S6 XB6 O6 tbo xbo
          go_wp2_with fail
          refine RD.out.mono ?_
          rintro e' w8 ⟨rfl, hc⟩
          have H8 := Lib.hid (H7.out.fresh hc)
          have XB8 := Lib.hid (hc.keep XB7.out id)
          have O8 := Lib.hid (Mem.Own.chg O7.out hc fun _ _ h => h.elim)
          have a0' := hc.cell a0 id
          have CY : Chg (fun _ => False) w8 (w8.alloc (.cells #[.string K, .string V, .int .u32 fl, .int .u32 ex, .int .u64 cas] 36)) := Chg.alloc _ _ _
          have a1 := CY.cell a0' id
          have YB9 := Lib.hid (heap_alloc_at w8 (.cells #[.string K, .string V, .int .u32 fl, .int .u32 ex, .int .u64 cas] 36))
          have H9 := Lib.hid (H8.out.fresh CY)
          have XB9 := Lib.hid (CY.keep XB8.out id)
          have O9 := Lib.hid (Mem.Own.chg O8.out CY fun _ _ h => h.elim)
          clear hc RD H7 XB7 O7 a0 S7 a0' CY H8 XB8 O8
          go_wp2_with fail
          generalize w8.alloc (.cells #[.string K, .string V, .int .u32 fl, .int .u32 ex, .int .u64 cas] 36) = w9 at a1 H9 XB9 O9 YB9 ⊢
          generalize w8.heap.size = yb at YB9 ⊢
          refine (PL.out w9 H9.out.lies).mono ?_
          rintro e' w10 ⟨A2, c4, rfl, ho, hc⟩
          have O10 := Lib.hid (Mem.Own.chg O9.out hc fun _ _ h => h.elim)
          have P10 := Lib.hid ho
          have H10 := Lib.hid (H9.out.fresh hc)
          have XB10 := hc.keep XB9.out id
          have YB10 := hc.keep YB9.out id
          have x0 : w10.cell? ⟨xb, 0, none⟩ = some (.string K) := by rw [blk_cell XB10]; rfl
          have x1 : w10.cell? ⟨xb, 1, none⟩ = some (.string V) := by rw [blk_cell XB10]; rfl
          have x2 : w10.cell? ⟨xb, 2, none⟩ = some (.int .u32 fl) := by rw [blk_cell XB10]; rfl
          have x3 : w10.cell? ⟨xb, 3, none⟩ = some (.int .u32 ex) := by rw [blk_cell XB10]; rfl
          have x4 : w10.cell? ⟨xb, 4, none⟩ = some (.int .u64 cas) := by rw [blk_cell XB10]; rfl
          have y0 : w10.cell? ⟨yb, 0, none⟩ = some (.string K) := by rw [blk_cell YB10]; rfl
          have y1 : w10.cell? ⟨yb, 1, none⟩ = some (.string V) := by rw [blk_cell YB10]; rfl
          have y2 : w10.cell? ⟨yb, 2, none⟩ = some (.int .u32 fl) := by rw [blk_cell YB10]; rfl
          have y3 : w10.cell? ⟨yb, 3, none⟩ = some (.int .u32 ex) := by rw [blk_cell YB10]; rfl
          have y4 : w10.cell? ⟨yb, 4, none⟩ = some (.int .u64 cas) := by rw [blk_cell YB10]; rfl
          clear hc PL XB10 YB10 H9 O9 XB9 YB9 a1 ho
          have FC : Hid (∀ W, Calls Try.prog 21 #[.agg #[.string K, .string V, .int .u32 fl, .int .u32 ex, .int .u64 cas]] W fun e w' => e = .returned (.agg #[.string K, .string V, .int .u32 fl, .int .u32 ex, .int .u64 cas]) ∧ Chg (fun _ => False) W w') := fun W => from_calls K V fl ex cas W
          have SC : Hid (∀ W, Chg (fun _ => False) w10 W → Calls Try.prog 22 #[.slice A2 (m + 1) c4, .slice (some ad) (m + 1) c'] W fun e w' => e = .returned (.bool true) ∧ Dr W w') := fun W hW => by
            have := same06_calls (c := c4) (d := c') (P10.out.sl.chg hW fun _ _ => id) (O10.out.sl.chg hW fun _ _ => id) (by rw [backL_len]; omega)
            rw [backL_len] at this
            exact this
          rw [backL_len]
          go_wp2_with fail
          go_region_held3 (fun w' => w'.cell? ⟨xb, 0, none⟩ = some (.string K) ∧ w'.cell? ⟨xb, 1, none⟩ = some (.string V) ∧ w'.cell? ⟨xb, 2, none⟩ = some (.int .u32 fl) ∧ w'.cell? ⟨xb, 3, none⟩ = some (.int .u32 ex) ∧ w'.cell? ⟨xb, 4, none⟩ = some (.int .u64 cas) ∧ w'.cell? ⟨yb, 0, none⟩ = some (.string K) ∧ w'.cell? ⟨yb, 1, none⟩ = some (.string V) ∧ w'.cell? ⟨yb, 2, none⟩ = some (.int .u32 fl) ∧ w'.cell? ⟨yb, 3, none⟩ = some (.int .u32 ex) ∧ w'.cell? ⟨yb, 4, none⟩ = some (.int .u64 cas)) (go_keep)
            (first
              | (go_at_call 21; refine (FC.out _).mono ?_; rintro e' w11 ⟨rfl, hc⟩; have C11 := Lib.hid ((Chg.drew (fun _ => False) w10).trans hc); have x0' := hc.cell (show (World.drew w10).cell? _ = _ from x0) id; have x1' := hc.cell (show (World.drew w10).cell? _ = _ from x1) id; have x2' := hc.cell (show (World.drew w10).cell? _ = _ from x2) id; have x3' := hc.cell (show (World.drew w10).cell? _ = _ from x3) id; have x4' := hc.cell (show (World.drew w10).cell? _ = _ from x4) id; have y0' := hc.cell (show (World.drew w10).cell? _ = _ from y0) id; have y1' := hc.cell (show (World.drew w10).cell? _ = _ from y1) id; have y2' := hc.cell (show (World.drew w10).cell? _ = _ from y2) id; have y3' := hc.cell (show (World.drew w10).cell? _ = _ from y3) id; have y4' := hc.cell (show (World.drew w10).cell? _ = _ from y4) id; clear hc; skip)
              | (go_at_call 22; refine (SC.out _ C11.out).mono ?_; rintro e' w12 ⟨rfl, hd⟩; have C12 := Lib.hid (C11.out.trans (hd.chg _)); have x0'' := (hd.chg (fun _ => False)).cell x0' id; have x1'' := (hd.chg (fun _ => False)).cell x1' id; have x2'' := (hd.chg (fun _ => False)).cell x2' id; have x3'' := (hd.chg (fun _ => False)).cell x3' id; have x4'' := (hd.chg (fun _ => False)).cell x4' id; have y0'' := (hd.chg (fun _ => False)).cell y0' id; have y1'' := (hd.chg (fun _ => False)).cell y1' id; have y2'' := (hd.chg (fun _ => False)).cell y2' id; have y3'' := (hd.chg (fun _ => False)).cell y3' id; have y4'' := (hd.chg (fun _ => False)).cell y4' id; clear hd; skip))
          all_goals
            (have F := Lib.hid (((C3.out.mono (T := fun b => w.heap.size ≤ b) fun _ _ h => h.elim).trans ((H10.out.chg.mono fun b _ hb => Nat.le_trans C3.out.size hb).trans (C12.out.mono fun _ _ h => h.elim))).below (B := w.heap.size) (Nat.le_refl _) fun _ h => h)
             clear x0 x1 x2 x3 x4 y0 y1 y2 y3 y4
             go_wp2_with fail
             go_ret
             exact ⟨rfl, F.out⟩)
end Go.Proofs.Ytolpjgpimholcaa.Item

