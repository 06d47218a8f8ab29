/- The program's arena: Return, Free, Write, Grant, New: what each answers, and what it writes. -/
import Derived.Test.YtolpjgpimholcaaArena2
namespace Go.Proofs.Ytolpjgpimholcaa.Mem
open Go Go.RowKit
set_option linter.unusedVariables false
set_option maxRecDepth 100000
/-- copy into a row that is known whole -/
theorem wpList_copy_row {P : Program} {w : World} {ops : Array Oper} {rest : List Oper} {o : Oper} {a : Act} {Q : Exit → Act → World → Prop} (hgd : o.guard = none) (d s : Operand) (dT sT : TypeId)
    (ho : o.op = .call { callee := .builtin .copy, args := #[d, s], argTypes := #[dT, sT] }) (elem : TypeId) (hu : P.underlying dT = some (.slice elem)) (hsz : (P.info? elem).map (·.size) = some 1)
    (g off dLen dCap : Nat) (A : Option Addr) (sLen sCap : Nat) (hd : a.eval d = .slice (some ⟨g, off, none⟩) dLen dCap) (hs : a.eval s = .slice A sLen sCap)
    (cur : List Value) (t : TypeId) (hg : w.heap[g]? = some (.cells cur.toArray t (0, 0))) (k : IntKind) (l : List Int) (hn : l.length = Nat.min sLen dLen) (hsl : Sl w k A l)
    (hfit : off + l.length ≤ cur.length)
    (h : wpList P ops Q rest (a.put o.dst (goInt l.length)) (w.setRow g (splice cur off (nums k l)).toArray)) : wpList P ops Q (o :: rest) a w := by
  by_cases h0 : l.length = 0
  · obtain rfl : l = [] := List.eq_nil_of_length_eq_zero h0
    refine wpList_copy_nothing hgd d s dT sT ho elem hu hsz _ _ dLen dCap sLen sCap hd hs (by simpa using hn.symm) ?_
    have e : w.setRow g (splice cur off (nums k [])).toArray = w := by
      show w.setRow g (splice cur off []).toArray = w
      rw [splice_none]; exact setRow_same hg
    rw [e] at h
    exact h
  · obtain ⟨ad, rfl, _⟩ := hsl 0 (by omega)
    refine wpList_copy_own hgd d s dT sT ho elem hu hsz g off dLen dCap ad sLen sCap hd hs cur.toArray t hg (nums k l) (by rw [nums_length]; exact hn) (fun j v hj => ?_) (by rw [nums_length]; simpa using hfit) (fun v hv => ?_) ?_
    · have hjl : j < l.length := by
        rcases Nat.lt_or_ge j l.length with h' | h'
        · exact h'
        · rw [List.getElem?_eq_none (by rw [nums_length]; exact h')] at hj; cases hj
      obtain ⟨ad', e', hc⟩ := hsl j hjl
      cases e'
      rw [nums_get k l j hjl] at hj
      cases hj
      exact hc
    · simp only [nums, List.mem_map] at hv
      obtain ⟨y, _, rfl⟩ := hv
      rfl
    · rw [nums_length]
      unfold splice at h
      rw [nums_length] at h
      exact h
end Go.Proofs.Ytolpjgpimholcaa.Mem
namespace Go.Proofs.Ytolpjgpimholcaa.Arena
open Go Go.RowKit Go.Proofs.Ytolpjgpimholcaa.Mem Go.Proofs.Ytolpjgpimholcaa.CodecPure Go.Proofs.Ytolpjgpimholcaa.ArenaPure Go.Proofs.Ytolpjgpimholcaa.Codec
set_option linter.unusedVariables false
set_option maxRecDepth 100000
variable {w w' : World} {a : Ar} {s : St}

/-! ### Write -/
theorem write_calls (hl : Lies w a s) (at_ : Int) (B : Option Addr) (c : Nat) (l : List Int) (hs : Sl w .u8 B l) (hb : Bytes l) (hm : l.length ≤ 1000000000) (hx : -9223372036854775808 ≤ at_ ∧ at_ ≤ 9223372036854775807) :
    Calls Try.prog 61 #[(.pointer (some ⟨a.g, 0, none⟩)), (.int .i64 at_), .slice B l.length c] w (Now w a (write s at_ l).1 (write s at_ l).2) := by
  unfold write
  by_cases h : within s at_ l.length
  · rw [if_pos h]
    have P := Lib.hid (part_ok hl at_ l.length h)
    have hp := page_of h
    have hP := pg_length hl.ok _ hp
    have M : (at_ % 1024).toNat + l.length ≤ 1024 := by have := h.2.2.2.2; omega
    unfold cut at P
    have HB := Lib.hid (hl.page _ hp)
    have HC : Hid (1 + (at_ % 1024).toNat + l.length ≤ (pageCells (s.own.getD (at_ / 1024).toNat 0) (pg s.B (at_ / 1024).toNat)).length) := by show _ ≤ _; rw [pageCells_length]; omega
    have HS := Lib.hid hs
    have R : Hid (∀ e w', e = Ending.returned (.int .i64 0) → w' = w.setRow (a.pb.getD (at_ / 1024).toNat 0) (splice (pageCells (s.own.getD (at_ / 1024).toNat 0) (pg s.B (at_ / 1024).toNat)) (1 + (at_ % 1024).toNat) (nums .u8 l)).toArray → Now w a (lay s at_ l) 0 e w') := fun e w' he hw => by
      subst hw
      rw [splice_cells_of]
      have := hl.lay at_ l h hb (Chg.setRow w _ _ rfl) (setRow_heap w _ _ _ _ (0, 0) (hl.page _ hp))
      exact ⟨he, this.1, this.2⟩
    generalize a.pb.getD (at_ / 1024).toNat 0 = b at P HB R
    generalize lay s at_ l = s' at R ⊢
    generalize pageCells (s.own.getD (at_ / 1024).toNat 0) (pg s.B (at_ / 1024).toNat) = cs at HB HC R
    generalize (at_ % 1024).toNat = o at P HC R
    have e : ((l.length : Int)).toNat = l.length := by omega
    rw [e] at P
    have N : Hid (l.length = Nat.min l.length l.length) := (Nat.min_self _).symm
    clear h hl hx M hP hp hs hb e
    go_enter Try.func61, Try.ntmps61
    go_wp2_with (first | (go_at_call 93; refine (P.out).mono ?_; rintro e w' ⟨rfl, rfl⟩) | (refine wpList_copy_row rfl _ _ 52 52 rfl 5 Try.underlying52 (by kernel_rfl) b (1 + o) _ _ B _ c rfl rfl cs _ HB.out .u8 l N.out HS.out HC.out ?_))
    go_ret
    exact R.out _ _ rfl rfl
  · rw [if_neg h]
    have P := Lib.hid (part_no hl at_ l.length hx h)
    have R : Hid (∀ e w', e = Ending.returned (.int .i64 1) → w = w' → Now w a s 1 e w') := fun e w' he hw => by subst hw; exact ⟨he, hl, Chg.refl _ _⟩
    clear h hl hx hs hb
    go_enter Try.func61, Try.ntmps61
    go_wp2_with (go_at_call 93; refine (P.out).mono ?_; rintro e w' ⟨rfl, rfl⟩)
    go_ret
    exact R.out _ _ rfl rfl

/-! ### Return -/
theorem getD_set (l : List Int) (i j : Nat) (v : Int) (hi : i < l.length) : (l.set i v).getD j 0 = if j = i then v else l.getD j 0 := by
  rw [List.getD_eq_getElem?_getD, List.getD_eq_getElem?_getD, List.getElem?_set]
  by_cases e : i = j
  · subst e; rw [if_pos rfl, if_pos hi, if_pos rfl]; rfl
  · rw [if_neg e, if_neg (fun h => e h.symm)]
theorem ok_set (hs : Ok s) (i : Nat) (v : Int) (hi : i < s.own.length) (h : -1 ≤ v ∧ v < 8) (B : List Int) (hB : B.length = s.B.length) (hb : Bytes B) : Ok ⟨s.own.set i v, B⟩ := by
  refine ⟨?_, ?_, ?_, hb, fun j hj => ?_⟩
  · show 1 ≤ (s.own.set i v).length
    rw [List.length_set]; exact hs.low
  · show (s.own.set i v).length ≤ 32
    rw [List.length_set]; exact hs.high
  · show B.length = 1024 * (s.own.set i v).length
    rw [List.length_set, hB]; exact hs.len
  · have hj' : j < s.own.length := by simpa using hj
    show -1 ≤ (s.own.set i v).getD j 0 ∧ (s.own.set i v).getD j 0 < 8
    rw [getD_set _ _ _ _ hi]
    split
    · exact h
    · exact hs.cls j hj'
/-! ### Free -/
theorem countP_take (p : Int → Bool) (l : List Int) (k : Nat) (hk : k < l.length) : (l.take (k + 1)).countP p = (l.take k).countP p + if p (l.getD k 0) then 1 else 0 := by
  rw [List.take_succ_eq_append_getElem hk, List.countP_append, List.getD_eq_getElem?_getD, List.getElem?_eq_getElem hk]
  simp [List.countP_cons]
theorem free_calls (hl : Lies w a s) : Calls Try.prog 87 #[(.pointer (some ⟨a.g, 0, none⟩))] w fun e w' => e = .returned (.int .i64 (free s)) ∧ w = w' := by
  have k1 := hl.hd
  have r := hl.ok.high
  have H := Lib.hid hl
  clear hl
  have N := Lib.hid (rfl : s.own.length = s.own.length)
  revert k1 r N
  generalize hn : s.own.length = n
  intro k1 r N
  have hn := Lib.hid hn
  go_enter Try.func87, Try.ntmps87
  go_wp2
  go_loop [3, 11] (fun c i => ∃ k : Nat, k ≤ n ∧ i = .int .i64 k ∧ c = .int .i64 ((s.own.take k).countP (fun c => decide (c < 0)) : Nat)) (fun _ i => n - (intOf i).toNat)
  case atStart => exact ⟨0, Nat.zero_le _, rfl, rfl⟩
  case round =>
    obtain ⟨k, hk, rfl, rfl⟩ := hrel
    have hc : (s.own.take k).countP (fun c => decide (c < 0)) ≤ k := Nat.le_trans List.countP_le_length (List.length_take_le _ _)
    by_cases hlt : k < n
    · have hi : k < s.own.length := by rw [hn.out]; exact hlt
      have p1 := H.out.row k hi
      have p2 := H.out.cls k hi
      have p3 := (H.out.ok.cls k hi).1
      have T := Lib.hid (countP_take (fun c => decide (c < 0)) s.own k hi)
      generalize (s.own.take k).countP (fun c => decide (c < 0)) = m at T hc ⊢
      generalize s.own.getD k 0 = c at p2 p3 T
      generalize a.pb.getD k 0 = b at p1 p2
      clear hi
      by_cases h0 : c < 0
      · obtain rfl : c = -1 := by omega
        go_wp2
        go_round
        case rel => exact ⟨k + 1, hlt, by go_num, by rw [T.out]; simp⟩
        case measure => simp [intOf]; omega
      · have w1 : (c == -1) = false := by rw [beq_eq_false_iff_ne]; omega
        have T2 : Hid ((s.own.take (k + 1)).countP (fun c => decide (c < 0)) = m) := by have := T.out; rw [if_neg (by simpa using h0)] at this; exact this
        go_wp2
        go_round
        case rel => exact ⟨k + 1, hlt, by go_num, by rw [T2.out]⟩
        case measure => simp [intOf]; omega
    · obtain rfl : k = n := by omega
      clear hc
      have T : Hid (((s.own.take k).countP (fun c => decide (c < 0))) = free s) := by
        show _ = _
        rw [List.take_of_length_le (by rw [hn.out]; exact Nat.le_refl _)]; rfl
      rw [T.out]
      clear T hn
      go_wp2
      go_ret
      exact ⟨rfl, rfl⟩

end Go.Proofs.Ytolpjgpimholcaa.Arena
