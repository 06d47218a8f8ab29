/- The reference's arena in memory, and what its functions do: within, width, Read, Number, Place, Write, SetNumber, SetPlace. -/
import Derived.Test.YtolpjgpimholcaaArena4
import Derived.Test.YtolpjgpimholcaaCodecOwn
import Derived.StillTailTactics
import Derived.IntWalk
namespace Go.Proofs.Ytolpjgpimholcaa.Mem
open Go Go.RowKit
set_option linter.unusedVariables false
set_option maxRecDepth 100000
/-- a cell of a row of the call's own is written -/
theorem Own.setc {w : World} {base g n c : Nat} {e : TypeId} {k : IntKind} {l : List Int} (h : Own w base e k (.slice (some ⟨g, 0, none⟩) n c) l) (i : Nat) (hi : i < l.length) (v : Int) :
    Own (w.setCell ⟨g, i, none⟩ (.int k v)) base e k (.slice (some ⟨g, 0, none⟩) n c) (l.set i v) := by
  obtain ⟨g', cs, e1, hg, hh, rfl, hl, hc, hm, hcell⟩ := h.blk (by omega)
  cases e1
  have e2 : l.length = (l.set i v).length := by rw [List.length_set]
  rw [e2, setCell_row hh]
  refine Own.of_blk (cs := cs.set i (.int k v)) hg ?_ (by rw [List.length_set, List.length_set]; exact hl) (by rw [List.length_set]; exact hc) hm fun j hj => ?_
  · rw [setRow_heap w _ _ _ _ (0, 0) hh]; simp
  · rw [List.length_set] at hj
    rw [List.getElem?_set, List.getD_eq_getElem?_getD, List.getElem?_set]
    by_cases e : i = j
    · subst e; rw [if_pos rfl, if_pos rfl, if_pos (by omega), if_pos hj]; rfl
    · rw [if_neg e, if_neg e, hcell j hj, List.getD_eq_getElem?_getD]
theorem Own.cellAt {w : World} {base g n c : Nat} {e : TypeId} {k : IntKind} {l : List Int} (h : Own w base e k (.slice (some ⟨g, 0, none⟩) n c) l) (i : Nat) (hi : i < l.length) : w.cell? ⟨g, i, none⟩ = some (.int k (l.getD i 0)) ∧ w.frozen? ⟨g, i, none⟩ = false := by
  obtain ⟨g', cs, e1, hg, hh, rfl, hl, hc, hm, hcell⟩ := h.blk (by omega)
  cases e1
  exact ⟨by rw [blk_cell hh, List.getElem?_toArray]; exact hcell i hi, blk_frozen hh i⟩
theorem splice_set (L X : List Int) (O j : Nat) (h : j < X.length) (hf : O + X.length ≤ L.length) : (splice L O (X.take j)).set (O + j) (X.getD j 0) = splice L O (X.take (j + 1)) := by
  have z1 : (X.take j).length = j := by rw [List.length_take]; omega
  have z2 : (X.take (j + 1)).length = j + 1 := by rw [List.length_take]; omega
  apply List.ext_getElem?
  intro i
  rw [List.getElem?_set, length_splice _ _ _ (by omega), splice_get _ _ _ (by omega), splice_get _ _ _ (by omega), z1, z2]
  by_cases e : O + j = i
  · subst e
    rw [if_pos rfl, if_pos (by omega), if_pos (by omega), List.getElem?_take, if_pos (by omega), List.getD_eq_getElem?_getD, Nat.add_sub_cancel_left, List.getElem?_eq_getElem h]; rfl
  · rw [if_neg e]
    by_cases h1 : O ≤ i ∧ i < O + j
    · rw [if_pos h1, if_pos (by omega), List.getElem?_take, List.getElem?_take, if_pos (by omega), if_pos (by omega)]
    · rw [if_neg h1, if_neg (by omega)]
/-- s[l:h] of a slice whose elements are one cell each -/
theorem slice_lh {P : Program} {t : TypeId} (ht : P.underlying t = some (.slice (P.elem t))) (hz : ∀ W, (Go.sizeOf (P.elem t)).run P W = .ok 1 W) (a : Option Addr) (len cap l n : Nat) (h2 : l + n ≤ cap) (w : World) :
    (Instr.sliceAt t (.slice a len cap) (some (.int .i64 l)) (some (.int .i64 ((l : Int) + n))) none).run P w = .ok (.slice (if cap = l then a else a.map (·.add l)) n (cap - l)) w := by
  rw [run_sliceAt_slice w t _ _ _ _ ht, run_slice_lh w t a len cap ht .i64 .i64 l ((l : Int) + n) (by omega) (by omega) (by omega), hz]
  have e1 : ((l : Int)).toNat = l := by omega
  have e2 : ((l : Int) + n).toNat = l + n := by omega
  rw [e1, e2]
  show Result.ok (sliced a l (l + n) cap 1) w = _
  unfold sliced
  rw [Nat.mul_one, Nat.add_sub_cancel_left]
end Go.Proofs.Ytolpjgpimholcaa.Mem
namespace Go.Proofs.Ytolpjgpimholcaa.Arena
open Go Go.RowKit Go.Proofs.Ytolpjgpimholcaa.Mem Go.Proofs.Ytolpjgpimholcaa.CodecPure Go.Proofs.Ytolpjgpimholcaa.ArenaPure Go.Proofs.Ytolpjgpimholcaa.Codec
set_option linter.unusedVariables false
set_option maxRecDepth 100000
variable {w w' : World} {s : St}
/-- the reference's arena: its header g, the row o of owners, the row b of all bytes -/
structure Ra where
  g : Nat
  o : Nat
  co : Nat
  b : Nat
  cb : Nat
structure RLies (w : World) (r : Ra) (s : St) : Prop where
  ok : Ok s
  head : w.heap[r.g]? = some (.cells #[.slice (some ⟨r.o, 0, none⟩) s.own.length r.co, .slice (some ⟨r.b, 0, none⟩) s.B.length r.cb] 139 (0, 0))
  own : Own w 0 3 .i64 (.slice (some ⟨r.o, 0, none⟩) s.own.length r.co) s.own
  byt : Own w 0 5 .u8 (.slice (some ⟨r.b, 0, none⟩) s.B.length r.cb) s.B
  ne1 : r.g ≠ r.o
  ne2 : r.g ≠ r.b
  ne3 : r.o ≠ r.b
variable {r : Ra}
def Ra.has (r : Ra) (x : Nat) : Prop := x = r.o ∨ x = r.b
theorem RLies.chg {S : Nat → Prop} (h : RLies w r s) (hc : Chg S w w') (hg : ¬ S r.g) (ho : ¬ S r.o) (hb : ¬ S r.b) : RLies w' r s where
  ok := h.ok
  head := hc.keep h.head hg
  own := h.own.chg hc fun g e => by simp [Value.ownBlock] at e; subst e; exact ho
  byt := h.byt.chg hc fun g e => by simp [Value.ownBlock] at e; subst e; exact hb
  ne1 := h.ne1
  ne2 := h.ne2
  ne3 := h.ne3
theorem RLies.hdO (h : RLies w r s) : w.cell? ⟨r.g, 0, none⟩ = some (.slice (some ⟨r.o, 0, none⟩) s.own.length r.co) := by rw [blk_cell h.head]; rfl
theorem RLies.hdB (h : RLies w r s) : w.cell? ⟨r.g, 1, none⟩ = some (.slice (some ⟨r.b, 0, none⟩) s.B.length r.cb) := by rw [blk_cell h.head]; rfl
theorem own_room {w : World} {base g n c : Nat} {e : TypeId} {k : IntKind} {l : List Int} (h : Own w base e k (.slice (some ⟨g, 0, none⟩) n c) l) : n ≤ c ∧ c ≤ 9223372036854775807 := by
  rcases h.2 with ⟨e1, _⟩ | ⟨g', cap, cur, e1, _, _, h1, h2, _⟩
  · cases e1
  · injection e1 with _ e2 e3
    subst e3
    exact ⟨by omega, h2⟩
theorem RLies.setOwn (h : RLies w r s) (i : Nat) (hi : i < s.own.length) (v : Int) (hv : -1 ≤ v ∧ v < 8) : RLies (w.setCell ⟨r.o, i, none⟩ (.int .i64 v)) r ⟨s.own.set i v, s.B⟩ where
  ok := ok_set h.ok i v hi hv _ rfl h.ok.bytes
  head := by
    show (w.setCell ⟨r.o, i, none⟩ (.int .i64 v)).heap[r.g]? = some (.cells #[.slice _ (s.own.set i v).length _, _] _ _)
    rw [List.length_set]
    exact (Chg.setCell (S := fun x => x = r.o) w ⟨r.o, i, none⟩ _ rfl).keep h.head h.ne1
  own := by
    show Own _ _ _ _ (.slice _ (s.own.set i v).length _) (s.own.set i v)
    rw [List.length_set]
    exact h.own.setc i hi v
  byt := h.byt.chg (Chg.setCell (S := fun x => x = r.o) w ⟨r.o, i, none⟩ _ rfl) fun g e => by simp [Value.ownBlock] at e; subst e; exact fun e => h.ne3 e.symm
  ne1 := h.ne1
  ne2 := h.ne2
  ne3 := h.ne3
theorem RLies.setByte (h : RLies w r s) (i : Nat) (hi : i < s.B.length) (v : Int) (hv : 0 ≤ v ∧ v ≤ 255) : RLies (w.setCell ⟨r.b, i, none⟩ (.int .u8 v)) r ⟨s.own, s.B.set i v⟩ where
  ok := ⟨h.ok.low, h.ok.high, by show (s.B.set i v).length = _; rw [List.length_set]; exact h.ok.len, fun x hx => by
    rcases List.mem_or_eq_of_mem_set hx with hx | rfl
    · exact h.ok.bytes x hx
    · exact hv, h.ok.cls⟩
  head := by
    show (w.setCell ⟨r.b, i, none⟩ (.int .u8 v)).heap[r.g]? = some (.cells #[_, .slice _ (s.B.set i v).length _] _ _)
    rw [List.length_set]
    exact (Chg.setCell (S := fun x => x = r.b) w ⟨r.b, i, none⟩ _ rfl).keep h.head h.ne2
  own := h.own.chg (Chg.setCell (S := fun x => x = r.b) w ⟨r.b, i, none⟩ _ rfl) fun g e => by simp [Value.ownBlock] at e; subst e; exact h.ne3
  byt := by
    show Own _ _ _ _ (.slice _ (s.B.set i v).length _) (s.B.set i v)
    rw [List.length_set]
    exact h.byt.setc i hi v
  ne1 := h.ne1
  ne2 := h.ne2
  ne3 := h.ne3

/-! ### within, width -/
theorem retb {b c : Bool} (h : b = c) : Ending.returned (.bool b) = .returned (.bool c) := by rw [h]
theorem within_yes (hl : RLies w r s) (at_ n : Int) (h : within s at_ n) : Calls Try.prog 94 #[(.pointer (some ⟨r.g, 0, none⟩)), (.int .i64 at_), (.int .i64 n)] w fun e w' => e = .returned (.bool true) ∧ w = w' := by
  have k1 := hl.hdO
  have k2 := hl.hdB
  have hp := page_of h
  have k3 := (hl.own.cellAt _ hp).1
  have r1 := hl.ok.high
  have r2 := hl.ok.len
  obtain ⟨h1, h2, h3, h4, h5⟩ := h
  obtain ⟨A, rfl⟩ := Int.eq_ofNat_of_zero_le h2
  obtain ⟨p, ep⟩ : ∃ p, A / 1024 = p := ⟨_, rfl⟩
  obtain ⟨o, eo⟩ : ∃ o, A % 1024 = o := ⟨_, rfl⟩
  have e1 : ((A : Int) / 1024).toNat = p := by omega
  have z1 : (A : Int).tdiv 1024 = p := by rw [Int.tdiv_eq_ediv_of_nonneg (by omega)]; omega
  have z2 : (A : Int).tmod 1024 = o := by rw [Int.tmod_eq_emod_of_nonneg (by omega)]; omega
  have y1 : (A : Int) / 1024 = p := by omega
  have y2 : (A : Int) % 1024 = o := by omega
  have q3 : o < 1024 := by omega
  rw [e1] at k3 h4 hp
  rw [y2] at h5
  have a0 : ((A : Int)) ≤ 32768 := by omega
  have t1 : (A : Int) < s.B.length := by omega
  generalize s.own.getD p 0 = c at k3 h4
  generalize s.own.length = N at k1 hp r1
  generalize s.B.length = M at k2 t1
  clear hl ep eo e1 h3 r2
  go_enter Try.func94, Try.ntmps94
  go_wp2
  go_ret
  exact ⟨rfl, rfl⟩
theorem within_no (hl : RLies w r s) (at_ n : Int) (hx : -9223372036854775808 ≤ at_ ∧ at_ ≤ 9223372036854775807) (h : ¬ within s at_ n) : Calls Try.prog 94 #[(.pointer (some ⟨r.g, 0, none⟩)), (.int .i64 at_), (.int .i64 n)] w fun e w' => e = .returned (.bool false) ∧ w = w' := by
  obtain ⟨hx0, hx1⟩ := hx
  by_cases h1 : n < 0
  · clear h hl
    go_enter Try.func94, Try.ntmps94
    go_wp2
    go_ret
    exact ⟨rfl, rfl⟩
  by_cases h2 : at_ < 0
  · clear h hl
    go_enter Try.func94, Try.ntmps94
    go_wp2
    go_ret
    exact ⟨rfl, rfl⟩
  have k1 := hl.hdO
  have k2 := hl.hdB
  have r1 := hl.ok.high
  have r2 := hl.ok.len
  by_cases h3 : (s.B.length : Int) ≤ at_
  · clear h hl
    go_enter Try.func94, Try.ntmps94
    go_wp2
    go_ret
    exact ⟨rfl, rfl⟩
  obtain ⟨A, rfl⟩ := Int.eq_ofNat_of_zero_le (show 0 ≤ at_ by omega)
  obtain ⟨p, ep⟩ : ∃ p, A / 1024 = p := ⟨_, rfl⟩
  obtain ⟨o, eo⟩ : ∃ o, A % 1024 = o := ⟨_, rfl⟩
  have e1 : ((A : Int) / 1024).toNat = p := by omega
  have z1 : (A : Int).tdiv 1024 = p := by rw [Int.tdiv_eq_ediv_of_nonneg (by omega)]; omega
  have z2 : (A : Int).tmod 1024 = o := by rw [Int.tmod_eq_emod_of_nonneg (by omega)]; omega
  have y1 : (A : Int) / 1024 = p := by omega
  have y2 : (A : Int) % 1024 = o := by omega
  have q3 : o < 1024 := by omega
  have hp : p < s.own.length := by omega
  have k3 := (hl.own.cellAt p hp).1
  have a0 : ((A : Int)) ≤ 32768 := by omega
  have t1 : (A : Int) < s.B.length := by omega
  have hh : s.own.getD p 0 < 0 ∨ ¬ s.own.getD p 0 < 0 ∧ (1024 : Int) - o < n := by
    by_cases g1 : s.own.getD p 0 < 0
    · exact .inl g1
    · refine .inr ⟨g1, ?_⟩
      by_cases g2 : (1024 : Int) - o < n
      · exact g2
      · refine absurd ⟨by omega, by omega, by omega, ?_, by omega⟩ h
        rw [e1]; omega
  generalize s.own.getD p 0 = c at k3 hh
  generalize s.own.length = N at k1 hp r1 r2
  generalize s.B.length = M at k2 t1 h3 r2
  clear h hl ep eo e1 r2 h3
  rcases hh with h4 | ⟨h4, h5⟩
  · go_enter Try.func94, Try.ntmps94
    go_wp2
    go_ret
    exact ⟨rfl, rfl⟩
  · have h4 : 0 ≤ c := by omega
    go_enter Try.func94, Try.ntmps94
    go_wp2
    go_ret
    exact ⟨retb (by simpa using h5), rfl⟩
theorem width_yes (n : Int) (w : World) (h : Wd n) : Calls Try.prog 115 #[(.int .i64 n)] w fun e w' => e = .returned (.bool true) ∧ w = w' := by
  rcases h with rfl | rfl | rfl | rfl
  all_goals
    go_enter Try.func115, Try.ntmps115
    go_wp2
    go_ret
    exact ⟨rfl, rfl⟩
theorem width_no (n : Int) (w : World) (h : ¬ Wd n) : Calls Try.prog 115 #[(.int .i64 n)] w fun e w' => e = .returned (.bool false) ∧ w = w' := by
  have e1 : ¬ n = 1 := fun e => h (.inl e)
  have e2 : ¬ n = 2 := fun e => h (.inr (.inl e))
  have e4 : ¬ n = 4 := fun e => h (.inr (.inr (.inl e)))
  have e8 : ¬ n = 8 := fun e => h (.inr (.inr (.inr e)))
  clear h
  go_enter Try.func115, Try.ntmps115
  go_wp2
  go_ret
  exact ⟨retb (by simp; omega), rfl⟩

/-! ### Read, Number, Place -/
theorem RLies.sl (h : RLies w r s) : Sl w .u8 (some ⟨r.b, 0, none⟩) s.B := h.byt.sl
theorem RLies.got_sl (h : RLies w r s) (at_ n : Int) (hi : within s at_ n) : Sl w .u8 (some ⟨r.b, at_.toNat, none⟩) (got s at_ n) := by
  intro j hj
  obtain ⟨ad, e, c⟩ := h.sl (at_.toNat + j) (by have := in_row h.ok hi; rw [got_length h.ok hi] at hj; omega)
  cases e
  refine ⟨_, rfl, ?_⟩
  rw [add_plain, Nat.zero_add] at c
  rw [add_plain, c]
  congr 2
  rw [got_length h.ok hi] at hj
  unfold got
  rw [List.getD_eq_getElem?_getD, List.getD_eq_getElem?_getD, List.getElem?_take, if_pos hj, List.getElem?_drop]
theorem elem_byte (W : World) : (Go.sizeOf (Try.prog.elem 52)).run Try.prog W = .ok 1 W := by kernel_rfl
/-- the slice of all bytes from one place on, as an address that leads to what lies there -/
theorem RLies.cut (h : RLies w r s) (A m : Nat) (hi : within s A m) : ∃ X, (∀ W, (Instr.sliceAt 52 (.slice (some ⟨r.b, 0, none⟩) s.B.length r.cb) (some (.int .i64 A)) (some (.int .i64 ((A : Int) + m))) none).run Try.prog W = .ok (.slice (some X) m (r.cb - A)) W) ∧ Sl w .u8 (some X) (got s A m) := by
  have rm := own_room h.byt
  have M := in_row h.ok hi
  have L := got_length h.ok hi
  have S := h.got_sl A m hi
  have e1 : ((A : Int)).toNat = A := by omega
  have e2 : ((m : Int)).toNat = m := by omega
  rw [e1] at M S
  rw [e2] at M L
  refine ⟨if r.cb = A then ⟨r.b, 0, none⟩ else ⟨r.b, A, none⟩, fun W => ?_, ?_⟩
  · rw [slice_lh Try.underlying52 elem_byte _ _ _ A m (by omega)]
    by_cases e : r.cb = A
    · rw [if_pos e, if_pos e]
    · rw [if_neg e, if_neg e, Option.map_some, add_plain, Nat.zero_add]
  · by_cases e : r.cb = A
    · have : got s A m = [] := List.eq_nil_of_length_eq_zero (by omega)
      rw [this]; exact Sl.nil _ _ _
    · rw [if_neg e]; exact S
theorem refread_calls (hl : RLies w r s) (at_ n : Int) (hx : -9223372036854775808 ≤ at_ ∧ at_ ≤ 9223372036854775807) :
    Calls Try.prog 84 #[(.pointer (some ⟨r.g, 0, none⟩)), (.int .i64 at_), (.int .i64 n)] w (Rd w (readA s at_ n).1 (readA s at_ n).2) := by
  unfold readA
  by_cases h : within s at_ n
  · rw [if_pos h]
    have P := Lib.hid (within_yes hl at_ n h)
    have L := got_length hl.ok h
    have k2 := hl.hdB
    have lt : r.g < w.heap.size := blk_lt hl.head
    have M := in_row hl.ok h
    have r1 := hl.ok.high
    have r2 := hl.ok.len
    obtain ⟨A, rfl⟩ := Int.eq_ofNat_of_zero_le h.2.1
    obtain ⟨m, rfl⟩ := Int.eq_ofNat_of_zero_le h.1
    obtain ⟨X, sl, S⟩ := hl.cut A m h
    have S := Lib.hid S
    have e1 : ((A : Int)).toNat = A := by omega
    have e2 : ((m : Int)).toNat = m := by omega
    rw [e1, e2] at M
    rw [e2] at L
    have L := Lib.hid L
    generalize got s A m = l at S L ⊢
    have R : Hid (∀ A c e w', e = Ending.returned (.tuple #[.slice A l.length c, .int .i64 0]) → Own w' w.heap.size 5 .u8 (.slice A l.length c) l → Chg (fun b => w.heap.size ≤ b) w w' → Rd w l 0 e w') := fun A c e w' he ho hc => ⟨A, c, he, ho, hc.mono fun i h1 h2 => by omega⟩
    have m6 : A + m ≤ 32768 := by omega
    generalize s.B.length = N at k2 sl
    clear h hl hx r1 r2 M e1 e2
    go_enter Try.func84, Try.ntmps84
    go_wp2_with (first | (go_at_call 94; refine (P.out).mono ?_; rintro e w' ⟨rfl, rfl⟩) | (at_builtin; refine wpList_app rfl _ _ 52 rfl w.heap.size 5 .u8 1 Try.underlying52 infoByte _ [] rfl (Own.lit w 5 .u8 [] (Nat.zero_le _)) (some X) m (r.cb - A) l rfl L.out (S.out.later (Chg.alloc _ w _) (Nat.le_refl _)) (fun e => by cases e) ?h63 ?hby ?hba ?_; (case h63 => unfold maxLen; simp; omega); (case hby => simp; omega); (case hba => simp); intro A' c' n' w3 hn' hown hchg; obtain rfl : n' = l.length := (by rw [L.out]; simpa using hn'); have O3 : Hid (Own w3 w.heap.size 5 .u8 (.slice A' l.length c') l) := hown; have C3 : Hid (Chg (fun b => w.heap.size ≤ b) w w3) := (Chg.alloc _ w _).trans hchg; clear hn' hown hchg))
    go_ret2
    exact R.out _ _ _ _ rfl O3.out C3.out
  · rw [if_neg h]
    have P := Lib.hid (within_no hl at_ n hx h)
    have R : Hid (∀ e w', e = Ending.returned (.tuple #[.slice none 0 0, .int .i64 1]) → w = w' → Rd w [] 1 e w') := fun e w' he hw => by
      subst hw; exact ⟨none, 0, he, Own.nil _ _ _ _, Chg.refl _ _⟩
    clear h hl hx
    go_enter Try.func84, Try.ntmps84
    go_wp2_with (go_at_call 94; refine (P.out).mono ?_; rintro e w' ⟨rfl, rfl⟩)
    go_ret2
    exact R.out _ _ rfl rfl

theorem number_ref (hs : Ok s) (at_ n : Int) (h : within s at_ n) (hw : Wd n) : getC s.B at_ n = getC (got s at_ n) 0 n := by
  have M := in_row hs h
  have L := got_length hs h
  have h0 := h.1
  have h2 := h.2.1
  unfold getC
  rw [if_pos ⟨hw, by omega, by omega⟩, if_pos ⟨hw, by omega, by omega⟩]
  have e : (got s at_ n).take n.toNat = got s at_ n := List.take_of_length_le (by omega)
  show (le (got s at_ n), (0 : Int)) = (le ((got s at_ n).take n.toNat), 0)
  rw [e]
theorem number_no (n : Int) (l : List Int) (hw : ¬ Wd n) : getC l 0 n = (0, 1) := by
  unfold getC
  rw [if_neg fun h => hw h.1]
theorem put_noW (n v : Int) (l : List Int) (hw : ¬ Wd n) : putC l 0 n v = (l, 1) := by
  unfold putC
  rw [if_neg fun h => hw h.1]
theorem place_ref (hs : Ok s) (at_ : Int) (h : within s at_ 4) : getPlaceC s.B at_ = getPlaceC (got s at_ 4) 0 := by
  have M := in_row hs h
  have L := got_length hs h
  have h2 := h.2.1
  have e4 : (4 : Int).toNat = 4 := rfl
  unfold getPlaceC
  rw [if_pos (show there s.B.length at_ 4 from ⟨.inr (.inr (.inl rfl)), by omega, by omega⟩), if_pos (show there (got s at_ 4).length 0 4 from ⟨.inr (.inr (.inl rfl)), by omega, by omega⟩)]
  have e : ((got s at_ 4).drop (0 : Int).toNat).take 4 = (s.B.drop at_.toNat).take 4 := by
    show (got s at_ 4).take 4 = _
    rw [List.take_of_length_le (by omega)]; rfl
  rw [e]
theorem refnumber_calls (hl : RLies w r s) (at_ n : Int) (hx : -9223372036854775808 ≤ at_ ∧ at_ ≤ 9223372036854775807) :
    Calls Try.prog 109 #[(.pointer (some ⟨r.g, 0, none⟩)), (.int .i64 at_), (.int .i64 n)] w fun e w' => e = .returned (.tuple #[.int .u64 (number s at_ n).1, .int .i64 (number s at_ n).2]) ∧ w = w' := by
  unfold number
  by_cases hw : Wd n
  · have H := Lib.hid (width_yes n w hw)
    by_cases h : within s at_ n
    · rw [if_pos h, ← number_ref hl.ok at_ n h hw]
      have P := Lib.hid (within_yes hl at_ n h)
      have k2 := hl.hdB
      have r1 := hl.ok.high
      have r2 := hl.ok.len
      have G := Lib.hid (refget_calls (some ⟨r.b, 0, none⟩) s.B r.cb at_ n w hl.sl hl.ok.bytes (by omega) hx)
      generalize (getC s.B at_ n).1 = x1 at G ⊢
      generalize (getC s.B at_ n).2 = x2 at G ⊢
      generalize s.B.length = N at k2 G
      clear h hl hx hw r1 r2
      go_enter Try.func109, Try.ntmps109
      go_wp2_with (first | (go_at_call 115; refine (H.out).mono ?_; rintro e w' ⟨rfl, rfl⟩) | (go_at_call 94; refine (P.out).mono ?_; rintro e w' ⟨rfl, rfl⟩) | (go_at_call 123; refine (G.out).mono ?_; rintro e w' ⟨rfl, rfl⟩))
      go_ret2
      exact ⟨rfl, rfl⟩
    · rw [if_neg h]
      have P := Lib.hid (within_no hl at_ n hx h)
      clear h hl hx hw
      go_enter Try.func109, Try.ntmps109
      go_wp2_with (first | (go_at_call 115; refine (H.out).mono ?_; rintro e w' ⟨rfl, rfl⟩) | (go_at_call 94; refine (P.out).mono ?_; rintro e w' ⟨rfl, rfl⟩))
      go_ret2
      exact ⟨rfl, rfl⟩
  · have H := Lib.hid (width_no n w hw)
    have e : (if within s at_ n then getC (got s at_ n) 0 n else (0, 1)) = (0, 1) := by
      rw [number_no n _ hw]; split <;> rfl
    rw [e]
    clear e hl hx hw
    go_enter Try.func109, Try.ntmps109
    go_wp2_with (go_at_call 115; refine (H.out).mono ?_; rintro e w' ⟨rfl, rfl⟩)
    go_ret2
    exact ⟨rfl, rfl⟩
theorem refplace_calls (hl : RLies w r s) (at_ : Int) (hx : -9223372036854775808 ≤ at_ ∧ at_ ≤ 9223372036854775807) :
    Calls Try.prog 108 #[(.pointer (some ⟨r.g, 0, none⟩)), (.int .i64 at_)] w fun e w' => e = .returned (.tuple #[.int .i64 (place s at_).1, .int .i64 (place s at_).2]) ∧ w = w' := by
  unfold place
  by_cases h : within s at_ 4
  · rw [if_pos h, ← place_ref hl.ok at_ h]
    have P := Lib.hid (within_yes hl at_ 4 h)
    have k2 := hl.hdB
    have r1 := hl.ok.high
    have r2 := hl.ok.len
    have G := Lib.hid (refgetplace_calls (some ⟨r.b, 0, none⟩) s.B r.cb at_ w hl.sl hl.ok.bytes (by omega) hx)
    generalize (getPlaceC s.B at_).1 = x1 at G ⊢
    generalize (getPlaceC s.B at_).2 = x2 at G ⊢
    generalize s.B.length = N at k2 G
    clear h hl hx r1 r2
    go_enter Try.func108, Try.ntmps108
    go_wp2_with (first | (go_at_call 94; refine (P.out).mono ?_; rintro e w' ⟨rfl, rfl⟩) | (go_at_call 122; refine (G.out).mono ?_; rintro e w' ⟨rfl, rfl⟩))
    go_ret2
    exact ⟨rfl, rfl⟩
  · rw [if_neg h]
    have P := Lib.hid (within_no hl at_ 4 hx h)
    clear h hl hx
    go_enter Try.func108, Try.ntmps108
    go_wp2_with (go_at_call 94; refine (P.out).mono ?_; rintro e w' ⟨rfl, rfl⟩)
    go_ret2
    exact ⟨rfl, rfl⟩

/-! ### Write, SetNumber, SetPlace -/
/-- one answer, an error; the reference's arena is so now; nothing else that was there has turned -/
def RNow (w : World) (r : Ra) (s' : St) (err : Int) (e : Ending) (w' : World) : Prop :=
  e = .returned (.int .i64 err) ∧ RLies w' r s' ∧ Chg r.has w w'
theorem lay_take (hs : Ok s) (at_ : Int) (l : List Int) (h : within s at_ l.length) (k : Nat) (hk : k < l.length) :
    (⟨(lay s at_ (l.take k)).own, (lay s at_ (l.take k)).B.set (at_.toNat + k) (l.getD k 0)⟩ : St) = lay s at_ (l.take (k + 1)) := by
  have M := in_row hs h
  unfold lay
  congr 1
  exact splice_set s.B l at_.toNat k hk (by omega)
theorem refwrite_ok (hl : RLies w r s) (at_ : Int) (ad : Addr) (c : Nat) (l : List Int) (hs : Sl w .u8 (some ad) l) (hb : Bytes l) (hf : ¬ r.has ad.block) (h : within s at_ l.length) (hm : l.length ≤ 1000000000) :
    Calls Try.prog 62 #[(.pointer (some ⟨r.g, 0, none⟩)), (.int .i64 at_), (.slice (some ad) l.length c)] w (RNow w r (lay s at_ l) 0) := by
  have P := Lib.hid (within_yes hl at_ l.length h)
  have H0 := Lib.hid hl
  have M := in_row hl.ok h
  have e1 : ((l.length : Int)).toNat = l.length := by omega
  rw [e1] at M
  have h2 := h.2.1
  have h3 := h.2.2.1
  have r1 := hl.ok.high
  have r2 := hl.ok.len
  have HS := Lib.hid hs
  have HF := Lib.hid hf
  have LT : Hid (∀ k, k < l.length → (⟨(lay s at_ (l.take k)).own, (lay s at_ (l.take k)).B.set (at_.toNat + k) (l.getD k 0)⟩ : St) = lay s at_ (l.take (k + 1))) := lay_take hl.ok at_ l h
  have HB := Lib.hid hb
  have T0 : Hid (lay s at_ (l.take 0) = s) := by
    show lay s at_ (l.take 0) = s
    unfold lay
    rw [List.take_zero, splice_none]
  have LB : Hid (∀ k, k ≤ l.length → (lay s at_ (l.take k)).B.length = s.B.length) := fun k hk => length_splice _ _ _ (by rw [List.length_take]; omega)
  have R : Hid (∀ e w', e = Ending.returned (.int .i64 0) → RLies w' r (lay s at_ (l.take l.length)) → Chg r.has w w' → RNow w r (lay s at_ l) 0 e w') := fun e w' he h1 hc => by
    rw [List.take_length] at h1; exact ⟨he, h1, hc⟩
  have r3 : s.B.length ≤ 32768 := by omega
  have r4 : at_.toNat + l.length ≤ s.B.length := M
  clear hs hf hl hb h e1 r1 r2 h3 M
  generalize hn : l.length = n at P hm LT R LB r4
  generalize s.B.length = N at r3 r4 LB
  have hn' := Lib.hid hn
  clear hn
  go_enter Try.func62, Try.ntmps62
  go_wp2_with (go_at_call 94; refine (P.out).mono ?_; rintro e w' ⟨rfl, rfl⟩)
  go_loopw [7] (fun i wr => ∃ k : Nat, k ≤ n ∧ i = .int .i64 k ∧ Hid (RLies wr r (lay s at_ (l.take k))) ∧ Hid (Chg r.has w wr)) (fun i _ => n - (intOf i).toNat)
  case atStart => exact ⟨0, Nat.zero_le _, rfl, by rw [T0.out]; exact H0.out, Chg.refl _ _⟩
  case round =>
    obtain ⟨k, hk, rfl, HL, HC⟩ := hrel
    by_cases hlt : k < n
    · have S2 := HS.out.chg HC.out (fun a e => by cases e; exact HF.out)
      obtain ⟨ad', e2, c2⟩ := S2 k (by rw [hn'.out]; exact hlt)
      cases e2
      have lb := LB.out k hk
      have k2 := HL.out.hdB
      rw [lb] at k2
      obtain ⟨A, rfl⟩ := Int.eq_ofNat_of_zero_le h2
      have e3 : ((A : Int)).toNat = A := by omega
      have cc := HL.out.byt.cellAt (A + k) (by rw [lb]; omega)
      have NX := Lib.hid (HL.out.setByte (A + k) (by rw [lb]; omega) (l.getD k 0) (HB.out _ (by rw [List.getD_eq_getElem?_getD, List.getElem?_eq_getElem (by rw [hn'.out]; exact hlt)]; exact List.getElem_mem _)))
      have LT2 := LT.out k hlt
      rw [e3] at LT2
      rw [LT2] at NX
      have CC : Hid (Chg r.has w (wr.setCell ⟨r.b, A + k, none⟩ (.int .u8 (l.getD k 0)))) := HC.out.trans (Chg.setCell _ _ _ (.inr rfl))
      obtain ⟨c3, c4⟩ := cc
      generalize (lay s (A : Int) (l.take k)).B.getD (A + k) 0 = old at c3
      generalize l.getD k 0 = x at c2 NX CC
      have q1 : IntKind.i64.wrap ((A : Int) + k) = (A : Int) + k := IntWalk.i64_in _ (by omega)
      have q2 : (0 : Int) ≤ (A : Int) + k := by omega
      have q3 : ((A : Int) + k).toNat = A + k := by omega
      have q4 : A + k < N := by omega
      have q5 : (A : Int) + k < N := by omega
      go_wp2_with fail
      go_still_tail 12, (by kernel_rfl)
      change wpList _ _ _ _ _ wr.drew
      clear q1 q2 q3 q5
      go_wp2
      go_roundw
      case rel => exact ⟨k + 1, hlt, by go_num, NX.out.chg (Chg.drew (fun _ => False) _) id id id, CC.out.trans (Chg.drew _ _)⟩
      case measure => simp [intOf]; omega
    · obtain rfl : k = n := by omega
      go_wp2
      go_ret
      exact R.out _ _ rfl HL.out HC.out
theorem refwrite_calls (hl : RLies w r s) (at_ : Int) (B : Option Addr) (c : Nat) (l : List Int) (hs : Sl w .u8 B l) (hb : Bytes l) (hf : l ≠ [] → ∀ ad, B = some ad → ¬ r.has ad.block) (hm : l.length ≤ 1000000000) (hx : -9223372036854775808 ≤ at_ ∧ at_ ≤ 9223372036854775807) :
    Calls Try.prog 62 #[(.pointer (some ⟨r.g, 0, none⟩)), (.int .i64 at_), .slice B l.length c] w (RNow w r (write s at_ l).1 (write s at_ l).2) := by
  unfold write
  by_cases h : within s at_ l.length
  · rw [if_pos h]
    by_cases h0 : 0 < l.length
    · obtain ⟨ad, rfl, _⟩ := hs 0 h0
      exact refwrite_ok hl at_ ad c l hs hb (hf (List.length_pos_iff.1 h0) ad rfl) h hm
    · obtain rfl : l = [] := List.eq_nil_of_length_eq_zero (by omega)
      have P := Lib.hid (within_yes hl at_ 0 h)
      have R : Hid (∀ e w', e = Ending.returned (.int .i64 0) → w = w' → RNow w r (lay s at_ []) 0 e w') := fun e w' he hw => by
        subst hw
        refine ⟨he, ?_, Chg.refl _ _⟩
        unfold lay
        rw [splice_none]; exact hl
      clear h hl hx hs hb hf h0 hm
      go_enter Try.func62, Try.ntmps62
      go_wp2_with (go_at_call 94; refine (P.out).mono ?_; rintro e w' ⟨rfl, rfl⟩)
      refine wp_loop_once ?_
      go_wp2
      go_ret
      exact R.out _ _ rfl rfl
  · rw [if_neg h]
    have P := Lib.hid (within_no hl at_ l.length hx h)
    have R : Hid (∀ e w', e = Ending.returned (.int .i64 1) → w = w' → RNow w r s 1 e w') := fun e w' he hw => by subst hw; exact ⟨he, hl, Chg.refl _ _⟩
    clear h hl hx hs hb hf
    go_enter Try.func62, Try.ntmps62
    go_wp2_with (go_at_call 94; refine (P.out).mono ?_; rintro e w' ⟨rfl, rfl⟩)
    go_ret
    exact R.out _ _ rfl rfl

end Go.Proofs.Ytolpjgpimholcaa.Arena
