/- The walk of chapter 08's works, and of the law ItemNext. -/
import Derived.Test.YtolpjgpimholcaaItemRead
import Derived.Test.YtolpjgpimholcaaMade
namespace Go.Proofs.Ytolpjgpimholcaa.Item
open Go Go.RowKit Go.Proofs.Ytolpjgpimholcaa.Mem Go.Proofs.Ytolpjgpimholcaa.CodecPure Go.Proofs.Ytolpjgpimholcaa.ArenaPure Go.Proofs.Ytolpjgpimholcaa.Codec Go.Proofs.Ytolpjgpimholcaa.Arena Go.Proofs.Ytolpjgpimholcaa.NeedPure Go.Proofs.Ytolpjgpimholcaa.Need
set_option linter.unusedVariables false
set_option maxRecDepth 100000
variable {w w' : World} {a : Ar} {s t : St}
/-- no places: ErrField -/
theorem write_field (T : List Int) (AT : Option Addr) (cT : Nat) (hT : Sl w .i64 AT T) (hTm : T.length ≤ 1000) (hTw : ∀ x ∈ T, -9223372036854775808 ≤ x ∧ x ≤ 9223372036854775807)
    (K V : ByteArray) (ex fl cas : Int) (c more : Nat) (hn : needC T K.size V.size = ((c : Int), (more : Int), 0)) (hm : more ≤ 16) (g : Nat) (hK : K.size ≤ 1000) (hV : V.size ≤ 10000) :
    Calls Try.prog 17 #[(.pointer (some ⟨g, 0, none⟩)), .slice AT T.length cT, .slice none 0 0, itemV K V fl ex cas] w fun e w' => e = .returned (.int .i64 6) ∧ Chg (fun _ => False) w w' := by
  have N := need_calls AT cT T K.size V.size (w.alloc (.cells #[.string K, .string V, .int .u32 fl, .int .u32 ex, .int .u64 cas] 36)) (hT.chg (Chg.alloc (fun _ => False) _ _) fun _ _ => id) (by omega) hTw
  rw [hn] at N
  have C0 : Hid (Chg (fun _ => False) w (w.alloc (.cells #[.string K, .string V, .int .u32 fl, .int .u32 ex, .int .u64 cas] 36))) := Chg.alloc _ _ _
  replace N := Lib.hid N
  have hne : (0 != 1 + (more : Int)) = true := by rw [bne_iff_ne]; omega
  unfold itemV
  clear hT hTw hn
  go_enter Try.func17, Try.ntmps17
  go_wp2_with fail
  refine N.out.mono ?_
  rintro e w2 ⟨rfl, hd⟩
  have C2 := Lib.hid (C0.out.trans (hd.chg _))
  clear hd N
  go_wp2_with fail
  go_ret
  exact ⟨rfl, C2.out⟩
/-- an item written, and read again -/
theorem Fine.read {tc : Int} {P : List Int} {K V : ByteArray} {ex fl cas : Int} (F : Fine s tc P (bs K) (bs V) ex fl cas) (ha : offV tc (bs K).length (bs V).length P.length = (bs V).length) (h : ItemK s t tc P (bs K) (bs V) ex fl cas P.length) : ItemAt t tc P (bs K) (bs V) ex fl cas := h.all F ha
theorem small4 : (IntKind.u64.wrap 4).tmod 6 = ((4 : Nat) : Int) ∧ IntKind.u64.wrap 4 % 6 = ((4 : Nat) : Int) := by decide
theorem made6_own : (madeS 6).own = [1, 1, 1, 1, 1, -1] := by decide +kernel
def T3 : List Int := [64, 128, 1024]
def W6 (s : St) : Prop := s.own = [1, 1, 1, 1, 1, -1]
theorem needs3 : needC T3 3 3 = (((0 : Nat) : Int), ((0 : Nat) : Int), 0) ∧ needC T3 3 10 = (0, 0, 0) ∧ needC T3 3 1000 = (2, 1, 0) := by decide
def KEY : ByteArray := ⟨#[107, 101, 121]⟩
def VAL : ByteArray := ⟨#[97, 98, 99]⟩
theorem T3_range : ∀ x ∈ T3, -9223372036854775808 ≤ x ∧ x ≤ 9223372036854775807 := fun x hx => by
  simp only [T3, List.mem_cons, List.not_mem_nil, or_false] at hx
  omega
theorem within_first {s : St} (ho : 0 ≤ s.own.getD 0 0) (h0 : 0 < s.own.length) {x n : Int} (hx : 0 ≤ x) (hn : 0 ≤ n) (hf : x + n ≤ 1024) (hx2 : x < 1024) : within s x n := by
  have e : (x / 1024).toNat = 0 := by omega
  refine ⟨hn, hx, by omega, by rw [e]; exact ho, by omega⟩
theorem fine3 {s : St} (hs : Ok s) (ho : s.own = [1, 1, 1, 1, 1, -1]) : Fine s 64 [64] (bs KEY) (bs VAL) 6 5 7 := by
  have hk : bs KEY = [107, 101, 121] := rfl
  have hv : bs VAL = [97, 98, 99] := rfl
  refine ⟨hs, by decide, by rw [hk]; decide, fun p hp => ?_, fun i j hi hj e => ?_, by decide, by rw [hk, hv]; decide, ⟨bs_bytes _, bs_bytes _⟩, by decide⟩
  · simp only [List.mem_singleton] at hp
    subst hp
    exact within_first (by rw [ho]; decide) (by rw [ho]; decide) (by decide) (by decide) (by decide) (by decide)
  · simp at hi hj; omega
theorem Here.off {B : Nat} {w0 : World} (h : Here B w0 w a s) {A : Addr} {k : IntKind} {l : List Int} (hs : Sl w k (some A) l) (hl : 0 < l.length) {w1 : World} (h1 : Here B w0 w1 a t) (hlt : w1.heap.size ≤ A.block) : A.block ∉ a.pb := fun hb => by
  have := h1.pb_lt _ hb
  omega
set_option maxHeartbeats 4000000 in
theorem works_calls (w : World) : Calls Try.prog 14 #[] w fun e w' => e = .returned (.bool true) ∧ Chg (fun _ => False) w w' := by
  go_enter Try.func14, Try.ntmps14
  go_wp2_with fail
  refine (made_calls 4 w 4 (by decide) small4.1 small4.2).mono ?_
  rintro e w1 ⟨a, r, rfl, T⟩
  have PB : Hid (w1.heap.size ∉ a.pb) := fun hb => by have := T.here.pb_lt _ hb; omega
  have H1 := Lib.hid (T.here.alloc (.cells (nums .i64 T3).toArray 3))
  have S1 := Lib.hid (sl_lit w1 .i64 T3 3 (0, 0))
  clear T
  go_wp2_with fail
  generalize hg : w1.alloc (.cells #[(.int .i64 64), (.int .i64 128), (.int .i64 1024)] 3) = w2
  have H2 : Hid (Here w.heap.size w w2 a (madeS 6)) := by rw [← hg]; exact H1.out
  have S2 : Hid (Sl w2 .i64 (some ⟨w1.heap.size, 0, none⟩) T3) := by rw [← hg]; exact S1.out
  clear hg H1 S1
  generalize w1.heap.size = tb at PB S2 ⊢
  have N1 := need_calls (some ⟨tb, 0, none⟩) 3 T3 3 10 w2 S2.out (by decide) T3_range
  rw [needs3.2.1] at N1
  refine N1.mono ?_
  rintro e w3 ⟨rfl, hd⟩
  have H3 := Lib.hid (H2.out.fresh (hd.chg _))
  have S3 := Lib.hid (S2.out.chg (hd.chg (fun _ => False)) fun _ _ => id)
  clear hd N1 H2 S2
  have N1 := need_calls (some ⟨tb, 0, none⟩) 3 T3 3 1000 w3 S3.out (by decide) T3_range
  rw [needs3.2.2] at N1
  replace N1 := Lib.hid N1
  go_wp2_with fail
  refine N1.out.mono ?_
  rintro e w4 ⟨rfl, hd⟩
  have H4 := Lib.hid (H3.out.fresh (hd.chg _))
  have S4 := Lib.hid (S3.out.chg (hd.chg (fun _ => False)) fun _ _ => id)
  clear hd N1 H3 S3
  go_wp2_with fail
  have XB := heap_alloc_at w4 (.cells #[.string KEY, .string VAL, .int .u32 5, .int .u32 6, .int .u64 7] 36)
  have CX := Chg.alloc (fun _ => False) (w4.alloc (.cells #[.string KEY, .string VAL, .int .u32 5, .int .u32 6, .int .u64 7] 36)) (.cells (nums .i64 [64]).toArray 3)
  have C5 : Chg (fun _ => False) w4 ((w4.alloc (.cells #[.string KEY, .string VAL, .int .u32 5, .int .u32 6, .int .u64 7] 36)).alloc (.cells (nums .i64 [64]).toArray 3)) := (Chg.alloc _ _ _).trans CX
  have XB5 := CX.keep XB id
  have PS := sl_lit (w4.alloc (.cells #[.string KEY, .string VAL, .int .u32 5, .int .u32 6, .int .u64 7] 36)) .i64 [64] 3 (0, 0)
  have zs : (w4.alloc (.cells #[.string KEY, .string VAL, .int .u32 5, .int .u32 6, .int .u64 7] 36)).heap.size = w4.heap.size + 1 := by simp
  rw [zs] at PS
  have H5 := Lib.hid (H4.out.fresh C5)
  have S5 := Lib.hid (S4.out.chg C5 fun _ _ => id)
  have XP : Hid (w4.heap.size ∉ a.pb) := fun hb => by have := H4.out.pb_lt _ hb; omega
  have XP2 : Hid (w4.heap.size + 1 ∉ a.pb) := fun hb => by have := H4.out.pb_lt _ hb; omega
  have FI := fine3 H5.out.lies.ok made6_own
  have WO := write_ok H5.out.lies T3 (some ⟨tb, 0, none⟩) 3 S5.out (by decide) T3_range [64] (.slice (some ⟨w4.heap.size + 1, 0, none⟩) 1 1) (SlV.of PS rfl (Nat.le_refl _) (by decide) fun e => by cases e) KEY VAL 6 5 7 0 0 64 needs3.1 (by decide) rfl rfl (fun ad e => by injection e with e; subst e; exact PB.out) (fun A n c e ad e2 => by injection e with e1 _ _; rw [e2] at e1; injection e1 with e1; subst e1; exact XP2.out) FI (by decide)
  have RI := Lib.hid (fun (t : St) (h : ItemK (madeS 6) t 64 [64] (bs KEY) (bs VAL) 6 5 7 1) => Fine.read FI (by decide) h)
  replace WO := Lib.hid WO
  replace XB5 := Lib.hid XB5
  clear FI PS CX C5 XB zs H4 S4
  generalize hg : (w4.alloc (.cells #[.string KEY, .string VAL, .int .u32 5, .int .u32 6, .int .u64 7] 36)).alloc (.cells (nums .i64 [64]).toArray 3) = w5 at H5 S5 WO XB5
  show Calls _ _ _ ((w4.alloc (.cells #[.string KEY, .string VAL, .int .u32 5, .int .u32 6, .int .u64 7] 36)).alloc (.cells (nums .i64 [64]).toArray 3)) _
  rw [hg]
  clear hg
  refine WO.out.mono ?_
  rintro e w6 ⟨t, rfl, l6, k6, c6⟩
  have H6 := Lib.hid (H5.out.now l6 c6)
  have S6 := Lib.hid (S5.out.chg c6 fun ad e => by injection e with e; subst e; exact PB.out)
  have XB6 := Lib.hid (c6.keep XB5.out XP.out)
  have IA := Lib.hid (RI.out t k6)
  have G0 : Hid (itemGet t 64 0 = (-1, 0)) := by
    have hh : within t 64 40 := IA.out.hdr
    exact itemGet_of k6.ok hh (by decide) (by decide) (by decide) (show Pl (-1) from ⟨by decide, by decide⟩) (k6.f 0 (by decide) (by decide) (by decide))
  generalize w4.heap.size = xb at XP XP2 XB6 ⊢
  clear l6 k6 c6 WO XB5 H5 S5 RI XP2
  have RD := read_ok H6.out.lies IA.out T3 (some ⟨tb, 0, none⟩) 3 S6.out (by decide) T3_range 0 0 needs3.1 (by decide) rfl (by decide) rfl
  unfold rdV at RD
  rw [str_bs, str_bs] at RD
  replace RD := Lib.hid RD
  go_wp2_with fail
  refine RD.out.mono ?_
  rintro e w7 ⟨rfl, hc⟩
  have H7 := Lib.hid (H6.out.fresh hc)
  have S7 := Lib.hid (S6.out.chg hc fun _ _ => id)
  have XB7 := Lib.hid (hc.keep XB6.out id)
  clear hc RD H6 S6 XB6
  go_wp2_with fail
  have YB7 := heap_alloc_at w7 (.cells #[.string KEY, .string VAL, .int .u32 5, .int .u32 6, .int .u64 7] 36)
  have CY : Chg (fun _ => False) w7 (w7.alloc (.cells #[.string KEY, .string VAL, .int .u32 5, .int .u32 6, .int .u64 7] 36)) := Chg.alloc _ _ _
  replace H7 := Lib.hid (H7.out.fresh CY)
  replace S7 := Lib.hid (S7.out.chg CY fun _ _ => id)
  replace XB7 := Lib.hid (CY.keep XB7.out id)
  replace YB7 := Lib.hid YB7
  clear CY
  generalize w7.heap.size = yb at YB7 ⊢
  generalize w7.alloc (.cells #[.string KEY, .string VAL, .int .u32 5, .int .u32 6, .int .u64 7] 36) = w7 at H7 S7 XB7 YB7 ⊢
  have GA := get_calls H7.out.lies 64 0 (by decide)
  rw [G0.out] at GA
  replace GA := Lib.hid GA
  refine GA.out.mono ?_
  rintro e w8 ⟨rfl, hc⟩
  have YB8 := Lib.hid (hc.keep YB7.out id)
  have H8 := Lib.hid (H7.out.fresh hc)
  have S8 := Lib.hid (S7.out.chg hc fun _ _ => id)
  have XB8 := Lib.hid (hc.keep XB7.out id)
  clear hc GA H7 S7 XB7
  have GA : Calls Try.prog 23 #[(.pointer (some ⟨a.g, 0, none⟩)), (.int .i64 64), (.int .i64 4)] w8 (Ans2 w8 0 6) := get_calls H8.out.lies 64 4 (by decide)
  replace GA := Lib.hid GA
  go_wp2_with fail
  refine GA.out.mono ?_
  rintro e w9 ⟨rfl, hc⟩
  have H9 := Lib.hid (H8.out.fresh hc)
  have S9 := Lib.hid (S8.out.chg hc fun _ _ => id)
  have XB9 := Lib.hid (hc.keep XB8.out id)
  have YB9 := Lib.hid (hc.keep YB8.out id)
  clear hc YB8 YB7 GA H8 S8 XB8
  have y0 : w9.cell? ⟨yb, 0, none⟩ = some (.string ⟨#[107, 101, 121]⟩) := by rw [blk_cell YB9.out]; rfl
  have y1 : w9.cell? ⟨yb, 1, none⟩ = some (.string ⟨#[97, 98, 99]⟩) := by rw [blk_cell YB9.out]; rfl
  have y2 : w9.cell? ⟨yb, 2, none⟩ = some (.int .u32 5) := by rw [blk_cell YB9.out]; rfl
  have y3 : w9.cell? ⟨yb, 3, none⟩ = some (.int .u32 6) := by rw [blk_cell YB9.out]; rfl
  have y4 : w9.cell? ⟨yb, 4, none⟩ = some (.int .u64 7) := by rw [blk_cell YB9.out]; rfl
  have x0 : w9.cell? ⟨xb, 0, none⟩ = some (.string ⟨#[107, 101, 121]⟩) := by rw [blk_cell XB9.out]; rfl
  have x1 : w9.cell? ⟨xb, 1, none⟩ = some (.string ⟨#[97, 98, 99]⟩) := by rw [blk_cell XB9.out]; rfl
  have x2 : w9.cell? ⟨xb, 2, none⟩ = some (.int .u32 5) := by rw [blk_cell XB9.out]; rfl
  have x3 : w9.cell? ⟨xb, 3, none⟩ = some (.int .u32 6) := by rw [blk_cell XB9.out]; rfl
  have x4 : w9.cell? ⟨xb, 4, none⟩ = some (.int .u64 7) := by rw [blk_cell XB9.out]; rfl
  have WF := write_field (w := w9) T3 (some ⟨tb, 0, none⟩) 3 S9.out (by decide) T3_range KEY VAL 6 5 7 0 0 needs3.1 (by decide) a.g (by decide) (by decide)
  have CB : Hid (Chg (fun _ => False) w w9) := H9.out.chg.mono fun _ hl hb => by omega
  replace WF := Lib.hid WF
  go_wp2_with fail
  refine WF.out.mono ?_
  rintro e w10 ⟨rfl, hc⟩
  have F := Lib.hid (CB.out.trans hc)
  clear hc
  go_wp2_with fail
  go_ret
  exact ⟨rfl, F.out⟩
end Go.Proofs.Ytolpjgpimholcaa.Item
