/- The reference's arena: Grant and New: what each answers, and what it writes. -/
import Derived.Test.YtolpjgpimholcaaRefArena2
namespace Go.Proofs.Ytolpjgpimholcaa.Arena
open Go Go.RowKit Go.Proofs.Ytolpjgpimholcaa.Mem Go.Proofs.Ytolpjgpimholcaa.CodecPure Go.Proofs.Ytolpjgpimholcaa.ArenaPure Go.Proofs.Ytolpjgpimholcaa.Codec
set_option linter.unusedVariables false
set_option maxRecDepth 100000
variable {w w' : World} {s : St} {r : Ra}
theorem Z1024_getD (j : Nat) : Z1024.getD j 0 = 0 := by
  rw [Z1024, List.getD_eq_getElem?_getD, List.getElem?_replicate]
  split <;> rfl
/-- two answers, numbers; the reference's arena is so now; nothing else that was there has turned -/
def RNow2 (w : World) (r : Ra) (s' : St) (x y : Int) (e : Ending) (w' : World) : Prop :=
  e = .returned (.tuple #[.int .i64 x, .int .i64 y]) ∧ RLies w' r s' ∧ Chg r.has w w'
set_option maxRecDepth 100000 in
theorem refgrant_calls (hl : RLies w r s) (c : Int) : Calls Try.prog 60 #[(.pointer (some ⟨r.g, 0, none⟩)), (.int .i64 c)] w (RNow2 w r (grant s c).1 (grant s c).2.1 (grant s c).2.2) := by
  unfold grant
  by_cases h : c < 0 ∨ 8 ≤ c
  · rw [if_pos h]
    have R : Hid (∀ e w', e = Ending.returned (.tuple #[.int .i64 0, .int .i64 1]) → w = w' → RNow2 w r s 0 1 e w') := fun e w' he hw => by subst hw; exact ⟨he, hl, Chg.refl _ _⟩
    clear hl
    rcases h with h | h
    · go_enter Try.func60, Try.ntmps60
      go_wp2
      go_ret2
      exact R.out _ _ rfl rfl
    · have h' : ¬ c < 0 := by omega
      go_enter Try.func60, Try.ntmps60
      go_wp2
      go_ret2
      exact R.out _ _ rfl rfl
  · rw [if_neg h]
    have h1 : 0 ≤ c := by omega
    have h2 : c < 8 := by omega
    have k1 := hl.hdO
    have r1 := hl.ok.high
    have H := Lib.hid hl
    have HF : Hid (∀ k, k < s.own.length → s.own.getD k 0 < 0 → (∀ j, j < k → 0 ≤ s.own.getD j 0) → ∀ e w', e = Ending.returned (.tuple #[.int .i64 k, .int .i64 0]) → RLies w' r (granted s k c) → Chg r.has w w' → RNow2 w r (if first s.own < s.own.length then (⟨s.own.set (first s.own) c, splice s.B (1024 * first s.own) Z1024⟩, (first s.own : Int), 0) else (s, 0, 2) : St × Int × Int).1 (if first s.own < s.own.length then (⟨s.own.set (first s.own) c, splice s.B (1024 * first s.own) Z1024⟩, (first s.own : Int), 0) else (s, 0, 2) : St × Int × Int).2.1 (if first s.own < s.own.length then (⟨s.own.set (first s.own) c, splice s.B (1024 * first s.own) Z1024⟩, (first s.own : Int), 0) else (s, 0, 2) : St × Int × Int).2.2 e w') := fun k hk h0 hj e w' he hw hc => by
      rw [first_eq _ k hk h0 hj, if_pos hk]
      exact ⟨he, hw, hc⟩
    have HN : Hid ((∀ j, j < s.own.length → 0 ≤ s.own.getD j 0) → ∀ e w', e = Ending.returned (.tuple #[.int .i64 0, .int .i64 2]) → w = w' → RNow2 w r (if first s.own < s.own.length then (⟨s.own.set (first s.own) c, splice s.B (1024 * first s.own) Z1024⟩, (first s.own : Int), 0) else (s, 0, 2) : St × Int × Int).1 (if first s.own < s.own.length then (⟨s.own.set (first s.own) c, splice s.B (1024 * first s.own) Z1024⟩, (first s.own : Int), 0) else (s, 0, 2) : St × Int × Int).2.1 (if first s.own < s.own.length then (⟨s.own.set (first s.own) c, splice s.B (1024 * first s.own) Z1024⟩, (first s.own : Int), 0) else (s, 0, 2) : St × Int × Int).2.2 e w') := fun hj e w' he hw => by
      rw [if_neg (first_none _ hj)]
      subst hw
      exact ⟨he, hl, Chg.refl _ _⟩
    revert HF HN
    generalize (if first s.own < s.own.length then (⟨s.own.set (first s.own) c, splice s.B (1024 * first s.own) Z1024⟩, (first s.own : Int), 0) else (s, 0, 2) : St × Int × Int) = q
    intro HF HN
    have LN := Lib.hid hl.ok.len
    clear hl h
    generalize hn : s.own.length = n at k1 r1 HF HN
    have hn' := Lib.hid hn
    clear hn
    go_enter Try.func60, Try.ntmps60
    go_wp2
    go_loopw [6] (fun i wr => ∃ k : Nat, k ≤ n ∧ i = .int .i64 k ∧ Hid (∀ j, j < k → 0 ≤ s.own.getD j 0) ∧ w = wr) (fun i _ => n - (intOf i).toNat)
    case atStart => exact ⟨0, Nat.zero_le _, rfl, fun j hj => by omega, rfl⟩
    case round =>
      obtain ⟨k, hk, rfl, J, rfl⟩ := hrel
      by_cases hlt : k < n
      · have hi : k < s.own.length := by rw [hn'.out]; exact hlt
        obtain ⟨p1, p2⟩ := H.out.own.cellAt k hi
        by_cases h0 : s.own.getD k 0 < 0
        · have F := Lib.hid (HF.out k hlt h0 J.out)
          have G0 : Hid (RLies (w.setCell ⟨r.o, k, none⟩ (.int .i64 c)) r ⟨s.own.set k c, splice s.B (1024 * k) (Z1024.take 0)⟩) := by
            have := H.out.setOwn k hi c (by omega)
            rw [List.take_zero, splice_none]
            exact this
          have GE : Hid (∀ j, j < 1024 → (⟨s.own.set k c, (splice s.B (1024 * k) (Z1024.take j)).set (1024 * k + j) 0⟩ : St) = ⟨s.own.set k c, splice s.B (1024 * k) (Z1024.take (j + 1))⟩) := fun j hj => by
            congr 1
            have := splice_set s.B Z1024 (1024 * k) j (by rw [Z1024_length]; exact hj) (by rw [Z1024_length, LN.out]; omega)
            rw [← this]
            congr 1
            exact (Z1024_getD j).symm
          have GL : Hid (∀ j, j ≤ 1024 → (splice s.B (1024 * k) (Z1024.take j)).length = s.B.length) := fun j hj => length_splice _ _ _ (by rw [List.length_take, Z1024_length, LN.out]; omega)
          have GF : Hid ((⟨s.own.set k c, splice s.B (1024 * k) (Z1024.take 1024)⟩ : St) = granted s k c) := by
            show _ = _
            rw [List.take_of_length_le (by rw [Z1024_length]; exact Nat.le_refl _)]; rfl
          have LB : 1024 * k + 1024 ≤ s.B.length := by rw [LN.out]; omega
          have LB2 : s.B.length ≤ 32768 := by rw [LN.out, hn'.out]; omega
          have C0 : Hid (Chg r.has w (w.setCell ⟨r.o, k, none⟩ (.int .i64 c))) := Chg.setCell _ _ _ (.inl rfl)
          generalize s.own.getD k 0 = d at p1 h0
          generalize s.B.length = N at LB LB2 GL
          clear hi
          go_wp2
          go_loopw [7] (fun i w2 => ∃ j : Nat, j ≤ 1024 ∧ i = .int .i64 j ∧ Hid (RLies w2 r ⟨s.own.set k c, splice s.B (1024 * k) (Z1024.take j)⟩) ∧ Hid (Chg r.has w w2)) (fun i _ => 1024 - (intOf i).toNat)
          case atStart => exact ⟨0, Nat.zero_le _, rfl, G0.out, C0.out⟩
          case round =>
            obtain ⟨j, hj, rfl, HL, HC⟩ := hrel
            by_cases hlt2 : j < 1024
            · have kb := HL.out.hdB
              have lb := GL.out j hj
              have e1 : (⟨s.own.set k c, splice s.B (1024 * k) (Z1024.take j)⟩ : St).B.length = N := lb
              rw [e1] at kb
              have cc := HL.out.byt.cellAt (1024 * k + j) (by rw [lb]; omega)
              obtain ⟨c3, c4⟩ := cc
              have NX := Lib.hid (HL.out.setByte (1024 * k + j) (by rw [e1]; omega) 0 (by decide))
              have GE2 := GE.out j hlt2
              have GE3 : Hid (RLies (wr.setCell ⟨r.b, 1024 * k + j, none⟩ (.int .u8 0)) r ⟨s.own.set k c, splice s.B (1024 * k) (Z1024.take (j + 1))⟩) := by rw [← GE2]; exact NX.out
              have C3 : Hid (Chg r.has w (wr.setCell ⟨r.b, 1024 * k + j, none⟩ (.int .u8 0))) := HC.out.trans (Chg.setCell _ _ _ (.inr rfl))
              generalize (⟨s.own.set k c, splice s.B (1024 * k) (Z1024.take j)⟩ : St).B.getD (1024 * k + j) 0 = old at c3
              have z1 : ((1024 : Int) * k + j).toNat = 1024 * k + j := by omega
              have z2 : (1024 : Int) * k + j < N := by omega
              have z3 : 1024 * k + j < N := by omega
              have z4 : (1024 : Int) * k ≤ 32768 := by omega
              clear NX GE2 e1 lb
              go_wp2
              go_roundw
              case rel => exact ⟨j + 1, hlt2, by go_num, GE3.out, C3.out⟩
              case measure => simp [intOf]; omega
            · obtain rfl : j = 1024 := by omega
              have F2 := Lib.hid (F.out _ wr rfl (by rw [← GF.out]; exact HL.out) HC.out)
              clear F
              go_wp2
              go_ret2
              exact F2.out
        · have h0 : 0 ≤ s.own.getD k 0 := by omega
          have J2 : Hid (∀ j, j < k + 1 → 0 ≤ s.own.getD j 0) := fun j hj => by
            rcases Nat.lt_or_ge j k with h' | h'
            · exact J.out j h'
            · obtain rfl : j = k := by omega
              omega
          generalize s.own.getD k 0 = d at p1 h0
          clear hi
          go_wp2
          go_roundw
          case rel => exact ⟨k + 1, hlt, by go_num, J2, trivial⟩
          case measure => simp [intOf]; omega
      · obtain rfl : k = n := by omega
        have F := Lib.hid (HN.out J.out)
        clear HF HN
        go_wp2
        go_ret2
        exact F.out _ _ rfl rfl

/-- a reference's arena of the call's own, or the error -/
def RNewA (w : World) (n : Int) (e : Ending) (w' : World) : Prop :=
  (n < 1 ∨ 32 < n) ∧ e = .returned (.tuple #[.pointer none, .int .i64 1]) ∧ w = w' ∨
  1 ≤ n ∧ n ≤ 32 ∧ ∃ r : Ra, e = .returned (.tuple #[.pointer (some ⟨r.g, 0, none⟩), .int .i64 0]) ∧ RLies w' r (new n.toNat) ∧ Chg (fun _ => False) w w' ∧ w.heap.size ≤ r.g ∧ w.heap.size ≤ r.o ∧ w.heap.size ≤ r.b
theorem made_zeros (n : Nat) : madeCells (Value.int .u8 0).cells (n * 1) = (nums .u8 (List.replicate n 0)).toArray := by
  apply Array.ext_getElem?
  intro i
  unfold madeCells nums
  rw [Array.getElem?_map, Array.getElem?_range, List.getElem?_toArray, List.getElem?_map, List.getElem?_replicate, Nat.mul_one]
  split
  · show some (#[Value.int .u8 0][i % 1]!) = some (Value.int .u8 0)
    rw [Nat.mod_one]; rfl
  · rfl
theorem make_bytes (n : Nat) (h : n ≤ 281474976710656) (W : World) : (Instr.makeSlice 52 (.int .i64 n) (.int .i64 n)).run Try.prog W = .ok (.slice (some ⟨W.heap.size, 0, none⟩) n n) (W.alloc (.cells (nums .u8 (List.replicate n 0)).toArray 5)) := by
  obtain ⟨i0, hi, hz0, hz1, hz2⟩ := info_parts infoByte
  rw [run_make W 52 5 i0 (.int .u8 0) Try.underlying52 hi hz0 .i64 .i64 n n (by omega) (by omega) (by rw [hz2]; omega) (by omega), hz1]
  have e : ((n : Int)).toNat = n := by omega
  rw [e, made_zeros]
theorem infoInt : (Try.prog.info? 3).map (fun i => (i.zero, i.size, i.bytes)) = some (some (.int .i64 0), 1, 8) := by kernel_rfl
/-- a header, the bytes' row and the owners' row so far -/
structure RMade (w : World) (B m : Nat) (v : Value) (k : Nat) : Prop where
  head : w.heap[B + 1]? = some (.cells #[v, .slice (some ⟨B, 0, none⟩) (1024 * m) (1024 * m)] 139 (0, 0))
  byt : w.heap[B]? = some (.cells (nums .u8 (List.replicate (1024 * m) 0)).toArray 5 (0, 0))
  own : Own w (B + 2) 3 .i64 v (List.replicate k (-1))
theorem RMade.lies {w : World} {B m : Nat} {v : Value} (h : RMade w B m v m) (h1 : 1 ≤ m) (h2 : m ≤ 32) : ∃ r : Ra, r.g = B + 1 ∧ RLies w r (new m) ∧ B ≤ r.o ∧ B ≤ r.b := by
  obtain ⟨A, c, rfl⟩ := h.own.form
  rw [List.length_replicate] at h
  obtain ⟨g, cs, rfl, hg, hh, _, hl, hc, hm, hcell⟩ := h.own.blk (by rw [List.length_replicate]; omega)
  have ho : (new m).own.length = m := by simp [new]
  have hb : (new m).B.length = 1024 * m := by simp [new]
  refine ⟨⟨B + 1, g, c, B, 1024 * m⟩, rfl, ⟨new_ok m h1 h2, ?_, ?_, ?_, ?_, ?_, ?_⟩, by show B ≤ g; omega, Nat.le_refl _⟩
  · rw [ho, hb]; exact h.head
  · rw [ho]
    exact h.own.mono (Nat.zero_le _)
  · have := Own.of_blk (base := 0) (k := .u8) (c := 1024 * m) (l := (new m).B) (cs := nums .u8 (List.replicate (1024 * m) 0)) (Nat.zero_le _) h.byt (by rw [nums_length]; exact Nat.le_refl _) (by rw [nums_length, List.length_replicate]) (by unfold maxLen; omega) (fun j hj => nums_get _ _ _ hj)
    exact this
  · show B + 1 ≠ g; omega
  · show B + 1 ≠ B; omega
  · show g ≠ B; omega
set_option maxRecDepth 100000 in
theorem refnew_calls (n : Int) (w : World) : Calls Try.prog 58 #[(.int .i64 n)] w (RNewA w n) := by
  by_cases h : n < 1 ∨ 32 < n
  · have R : Hid (∀ e w', e = Ending.returned (.tuple #[.pointer none, .int .i64 1]) → w = w' → RNewA w n e w') := fun e w' he hw => .inl ⟨h, he, hw⟩
    rcases h with h | h
    · go_enter Try.func58, Try.ntmps58
      go_wp2
      go_ret2
      exact R.out _ _ rfl rfl
    · have h' : ¬ n < 1 := by omega
      go_enter Try.func58, Try.ntmps58
      go_wp2
      go_ret2
      exact R.out _ _ rfl rfl
  · have h1 : ¬ n < 1 := by omega
    have h2 : ¬ 32 < n := by omega
    obtain ⟨m, rfl⟩ := Int.eq_ofNat_of_zero_le (show 0 ≤ n by omega)
    have R : Hid (∀ e w' v, RMade w' w.heap.size m v m → Chg (fun b => w.heap.size ≤ b) w w' → e = Ending.returned (.tuple #[.pointer (some ⟨w.heap.size + 1, 0, none⟩), .int .i64 0]) → RNewA w m e w') := fun e w' v hM hc he => by
      refine .inr ⟨by omega, by omega, ?_⟩
      obtain ⟨r, e1, h3, h4, h5⟩ := hM.lies (by omega) (by omega)
      exact ⟨r, by rw [he, e1], by rw [Int.toNat_natCast]; exact h3, hc.mono fun i h1 h2 => by omega, by omega, h4, h5⟩
    have mk : ∀ W : World, (Instr.makeSlice 52 (.int .i64 (1024 * (m : Int))) (.int .i64 (1024 * (m : Int)))).run Try.prog W = .ok (.slice (some ⟨W.heap.size, 0, none⟩) (1024 * m) (1024 * m)) (W.alloc (.cells (nums .u8 (List.replicate (1024 * m) 0)).toArray 5)) := fun W => by
      have := make_bytes (1024 * m) (by omega) W
      rw [show ((1024 * m : Nat) : Int) = 1024 * (m : Int) by omega] at this
      exact this
    have M0 : Hid (RMade ((w.alloc (.cells (nums .u8 (List.replicate (1024 * m) 0)).toArray 5)).alloc (.cells #[.slice none 0 0, .slice (some ⟨w.heap.size, 0, none⟩) (1024 * m) (1024 * m)] 139)) w.heap.size m (.slice none 0 0) 0) := by
      refine ⟨?_, ?_, Own.nil _ _ _ _⟩
      · have e : w.heap.size + 1 = (w.alloc (.cells (nums .u8 (List.replicate (1024 * m) 0)).toArray 5)).heap.size := by simp
        rw [e]; exact heap_alloc_at _ _
      · rw [Below.heap_alloc _ _ _ (by simp)]; exact heap_alloc_at _ _
    have C0 : Hid (Chg (fun b => w.heap.size ≤ b) w ((w.alloc (.cells (nums .u8 (List.replicate (1024 * m) 0)).toArray 5)).alloc (.cells #[.slice none 0 0, .slice (some ⟨w.heap.size, 0, none⟩) (1024 * m) (1024 * m)] 139))) := (Chg.alloc _ _ _).trans (Chg.alloc _ _ _)
    generalize (nums .u8 (List.replicate (1024 * m) 0)).toArray = zs at mk M0 C0
    clear h
    go_enter Try.func58, Try.ntmps58
    go_wp2
    generalize (w.alloc (.cells zs 5)).alloc (.cells #[.slice none 0 0, .slice (some ⟨w.heap.size, 0, none⟩) (1024 * m) (1024 * m)] 139) = w0 at M0 C0 ⊢
    clear mk
    go_loopw [5] (fun i wr => ∃ (k : Nat) (v : Value), k ≤ m ∧ i = .int .i64 k ∧ Hid (RMade wr w.heap.size m v k) ∧ Hid (Chg (fun b => w.heap.size ≤ b) w wr)) (fun i _ => m - (intOf i).toNat)
    case atStart => exact ⟨0, _, Nat.zero_le _, rfl, M0.out, C0.out⟩
    case round =>
      obtain ⟨k, v, hk, rfl, M, C⟩ := hrel
      by_cases hlt : k < m
      · have c1 : wr.cell? ⟨w.heap.size + 1, 0, none⟩ = some v := by rw [blk_cell M.out.head]; rfl
        have lt : w.heap.size + 1 < wr.heap.size := blk_lt M.out.head
        have O1 : Hid (Own (wr.alloc (.cells #[.int .i64 (-1)] 3)) (w.heap.size + 2) 3 .i64 v (List.replicate k (-1))) := M.out.own.chg (S := fun _ => False) (Chg.alloc _ _ _) fun _ _ => id
        have S1 : Hid (Sl (wr.alloc (.cells #[.int .i64 (-1)] 3)) .i64 (some ⟨wr.heap.size, 0, none⟩) [-1]) := (Own.lit wr 3 .i64 [-1] (by decide)).sl
        go_wp2_with (at_builtin; refine wpList_app rfl _ _ 27 rfl (w.heap.size + 2) 3 .i64 8 Try.underlying27 infoInt v (List.replicate k (-1)) rfl O1.out (some ⟨wr.heap.size, 0, none⟩) 1 1 [-1] rfl rfl S1.out (fun e => by cases e) ?h63 ?hby ?hba ?_; (case h63 => rw [List.length_replicate]; unfold maxLen; omega); (case hby => rw [List.length_replicate]; omega); (case hba => simp; omega); intro A' c' n' w3 hn' hown hchg; have N3 : n' = k + 1 := (by rw [hn', List.length_replicate]); clear hn'; subst N3; have C3 : Hid (Chg (fun b => w.heap.size + 2 ≤ b) wr w3) := (Chg.alloc _ wr _).trans hchg; have H3 := Lib.hid (C3.out.keep M.out.head (show ¬ w.heap.size + 2 ≤ w.heap.size + 1 by omega)); have c3 : w3.cell? ⟨w.heap.size + 1, 0, none⟩ = some v := (by rw [blk_cell H3.out]; rfl); have f3 := blk_frozen H3.out 0; have M4 : Hid (RMade (w3.setCell ⟨w.heap.size + 1, 0, none⟩ (.slice A' (k + 1) c')) w.heap.size m (.slice A' (k + 1) c') (k + 1)) := ⟨(by rw [setCell_row H3.out, setRow_heap w3 _ _ _ _ (0, 0) H3.out]; rfl), (Chg.setCell (S := fun x => x = w.heap.size + 1) w3 ⟨w.heap.size + 1, 0, none⟩ _ rfl).keep (C3.out.keep M.out.byt (show ¬ w.heap.size + 2 ≤ w.heap.size by omega)) (show ¬ w.heap.size = w.heap.size + 1 by omega), by rw [List.replicate_succ']; exact hown.chg (Chg.setCell (S := fun x => x = w.heap.size + 1) w3 ⟨w.heap.size + 1, 0, none⟩ _ rfl) fun g e he => by have := (World.ownsRow.lt hown g e).1; omega⟩; have C4 : Hid (Chg (fun b => w.heap.size ≤ b) w (w3.setCell ⟨w.heap.size + 1, 0, none⟩ (.slice A' (k + 1) c'))) := (C.out.trans (C3.out.mono fun i _ h => by omega)).trans (Chg.setCell _ _ _ (show w.heap.size ≤ w.heap.size + 1 by omega)); clear hown hchg)
        go_roundw
        case rel => exact ⟨k + 1, _, hlt, by go_num, M4.out, C4.out⟩
        case measure => simp [intOf]; omega
      · obtain rfl : k = m := by omega
        have F := Lib.hid (R.out _ wr v M.out C.out rfl)
        clear R
        go_wp2
        go_ret2
        exact F.out

end Go.Proofs.Ytolpjgpimholcaa.Arena
