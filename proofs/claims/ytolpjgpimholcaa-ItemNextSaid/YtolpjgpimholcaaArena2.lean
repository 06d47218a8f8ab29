/- The program's arena: Read, Write, Number, SetNumber, Place, SetPlace, Return, Free: what each answers, and what it writes. -/
import Derived.Test.YtolpjgpimholcaaArena
namespace Go.Proofs.Ytolpjgpimholcaa.Arena
open Go Go.RowKit Go.Proofs.Ytolpjgpimholcaa.Mem Go.Proofs.Ytolpjgpimholcaa.CodecPure Go.Proofs.Ytolpjgpimholcaa.ArenaPure Go.Proofs.Ytolpjgpimholcaa.Codec
set_option linter.unusedVariables false
set_option maxRecDepth 100000
variable {w w' : World} {a : Ar} {s : St}

/-! ### plain words -/
theorem splice_self {α : Type} (P : List α) (o n : Nat) (h : o + n ≤ P.length) : splice P o ((P.drop o).take n) = P := by
  have hl : ((P.drop o).take n).length = n := by rw [List.length_take, List.length_drop]; omega
  apply List.ext_getElem?
  intro i
  rw [splice_get _ _ _ (by omega), hl]
  split
  · rw [List.getElem?_take, if_pos (by omega), List.getElem?_drop]; congr 1; omega
  · rfl
theorem splice_whole {α : Type} (L X : List α) (h : X.length = L.length) : splice L 0 X = X := by
  unfold splice
  rw [List.take_zero, List.nil_append, List.drop_of_length_le (by omega), List.append_nil]
theorem splice_cells_of (c : Int) (P X : List Int) (o : Nat) : splice (pageCells c P) (1 + o) (nums .u8 X) = pageCells c (splice P o X) := by
  unfold splice pageCells nums
  rw [Nat.add_comm 1 o, List.take_succ_cons, List.cons_append, Nat.add_right_comm, List.drop_succ_cons, List.length_map, List.map_append, List.map_append, List.map_take, List.map_drop]
theorem putC_pair (L : List Int) (width v : Int) (h : L.length = width.toNat) : (putC L 0 width v).1 = L ∧ (putC L 0 width v).2 ≠ 0 ∨ (putC L 0 width v).1 = leb v width.toNat ∧ (putC L 0 width v).2 = 0 := by
  unfold putC
  by_cases ht : there L.length 0 width
  · rw [if_pos ht]
    by_cases hv : width < 8 ∧ v / 2 ^ (8 * width.toNat) ≠ 0
    · rw [if_pos hv]; exact Or.inl ⟨rfl, by simp⟩
    · rw [if_neg hv]
      refine Or.inr ⟨?_, rfl⟩
      exact splice_whole _ _ (by rw [leb_length]; exact h.symm)
  · rw [if_neg ht]; exact Or.inl ⟨rfl, by simp⟩
theorem putRow_page (c : Int) (P : List Int) (o : Nat) (width v : Int) (h : o + width.toNat ≤ P.length) :
    putRow (pageCells c P) (1 + o) ((P.drop o).take width.toNat) 0 width v = pageCells c (splice P o (putC ((P.drop o).take width.toNat) 0 width v).1) := by
  have hl : ((P.drop o).take width.toNat).length = width.toNat := by rw [List.length_take, List.length_drop]; omega
  unfold putRow
  rcases putC_pair _ width v hl with ⟨e1, e2⟩ | ⟨e1, e2⟩
  · rw [if_neg e2, e1, splice_self P o _ h]
  · rw [if_pos e2, e1]
    exact splice_cells_of c P _ o
theorem putPlaceRow_page (c : Int) (P : List Int) (o : Nat) (p : Int) (h : o + 4 ≤ P.length) :
    putPlaceRow (pageCells c P) (1 + o) ((P.drop o).take 4) 0 p = pageCells c (splice P o (putPlaceC ((P.drop o).take 4) 0 p).1) := by
  by_cases hp : p < -1 ∨ p > 2147483647
  · rw [(putPlaceRow_far _ _ _ _ _ hp).1, (putPlaceRow_far [] 0 _ _ _ hp).2, splice_self P o 4 h]
  · rw [putPlaceRow_of _ _ _ _ _ hp, putPlaceC_of _ _ _ hp]
    exact putRow_page c P o 4 _ h
theorem putC_len (L : List Int) (width v : Int) : (putC L 0 width v).1.length = L.length := putC_length L 0 width v

/-! ### a page that is written -/
theorem Lies.pb_mem (h : Lies w a s) (i : Nat) (hi : i < s.own.length) : a.pb.getD i 0 ∈ a.pb := by
  have := h.np
  rw [List.getD_eq_getElem?_getD, List.getElem?_eq_getElem (by omega)]
  exact List.getElem_mem _
theorem Lies.of_mem (h : Lies w a s) {b : Nat} (hb : b ∈ a.pb) : ∃ i, i < s.own.length ∧ a.pb.getD i 0 = b := by
  obtain ⟨i, hi, e⟩ := List.mem_iff_getElem.1 hb
  refine ⟨i, by have := h.np; omega, ?_⟩
  rw [List.getD_eq_getElem?_getD, List.getElem?_eq_getElem hi]; exact e
theorem Lies.g_out (h : Lies w a s) : a.g ∉ a.pb := fun hb => by
  obtain ⟨i, hi, e⟩ := h.of_mem hb
  exact (h.far i hi).1 e
theorem Lies.ps_out (h : Lies w a s) : a.ps ∉ a.pb := fun hb => by
  obtain ⟨i, hi, e⟩ := h.of_mem hb
  exact (h.far i hi).2 e
theorem Lies.put (h : Lies w a s) (s' : St) (hs : Ok s') (hn : s'.own.length = s.own.length) (i : Nat) (hi : i < s.own.length) (hc : Chg (fun b => b = a.pb.getD i 0) w w')
    (hb : w'.heap[a.pb.getD i 0]? = some (.cells (pageCells (s'.own.getD i 0) (pg s'.B i)).toArray 153 (0, 0)))
    (hr : ∀ j, j < s.own.length → j ≠ i → s'.own.getD j 0 = s.own.getD j 0 ∧ pg s'.B j = pg s.B j) : Lies w' a s' ∧ Chg (· ∈ a.pb) w w' := by
  refine ⟨⟨hs, ?_, by rw [hn]; exact h.room, by rw [hn]; exact h.np, ?_, ?_, by rw [hn]; exact h.inj, by rw [hn]; exact h.far, h.two⟩, hc.mono fun b _ e => e ▸ h.pb_mem i hi⟩
  · rw [hn]; exact hc.keep h.head fun e => (h.far i hi).1 e.symm
  · rw [hn]
    exact fun j hj => hc.cell (h.row j hj) fun e => (h.far i hi).2 e.symm
  · rw [hn]
    intro j hj
    by_cases e : j = i
    · subst e; exact hb
    · rw [(hr j hj e).1, (hr j hj e).2]
      exact hc.keep (h.page j hj) fun e' => e (h.inj j i hj hi e')
/-- what lies where part points -/
theorem Lies.cut_sl (h : Lies w a s) (at_ n : Int) (hi : within s at_ n) : Sl w .u8 (some ⟨a.pb.getD (at_ / 1024).toNat 0, 1 + (at_ % 1024).toNat, none⟩) (got s at_ n) := by
  intro j hj
  refine ⟨_, rfl, ?_⟩
  have hp := page_of hi
  rw [add_plain, blk_cell (h.page _ hp), got_page h.ok hi]
  have hl := got_length h.ok hi
  have h4 := hi.2.2.2.2
  have hP := pg_length h.ok _ hp
  have e1 : 1 + (at_ % 1024).toNat + j = ((at_ % 1024).toNat + j) + 1 := by omega
  rw [e1]
  unfold pageCells
  rw [List.getElem?_toArray, List.getElem?_cons_succ, nums_get _ _ _ (by omega)]
  congr 2
  rw [List.getD_eq_getElem?_getD, List.getD_eq_getElem?_getD, List.getElem?_take, if_pos (by omega), List.getElem?_drop]
/-- bytes that are laid -/
theorem Lies.lay (h : Lies w a s) (at_ : Int) (X : List Int) (hi : within s at_ X.length) (hX : Bytes X) (hc : Chg (fun b => b = a.pb.getD (at_ / 1024).toNat 0) w w')
    (hb : w'.heap[a.pb.getD (at_ / 1024).toNat 0]? = some (.cells (pageCells (s.own.getD (at_ / 1024).toNat 0) (splice (pg s.B (at_ / 1024).toNat) (at_ % 1024).toNat X)).toArray 153 (0, 0))) :
    Lies w' a (lay s at_ X) ∧ Chg (· ∈ a.pb) w w' := by
  have hp := page_of hi
  have hr := in_row h.ok hi
  refine h.put _ (lay_ok h.ok (by omega) hX) rfl _ hp hc ?_ fun j hj e => ⟨rfl, ?_⟩
  · rw [lay_page h.ok hi _ hp, if_pos rfl]; exact hb
  · rw [lay_page h.ok hi _ hj, if_neg e]

/-! ### Read, Number, Place -/
/-- two answers, bytes in a row of the call's own and an error; nothing that was there has turned -/
def Rd (w : World) (l : List Int) (err : Int) (e : Ending) (w' : World) : Prop :=
  ∃ A c, e = .returned (.tuple #[.slice A l.length c, .int .i64 err]) ∧ Own w' w.heap.size 5 .u8 (.slice A l.length c) l ∧ Chg (fun _ => False) w w'
theorem read_calls (hl : Lies w a s) (at_ n : Int) (hx : -9223372036854775808 ≤ at_ ∧ at_ ≤ 9223372036854775807) :
    Calls Try.prog 63 #[(.pointer (some ⟨a.g, 0, none⟩)), (.int .i64 at_), (.int .i64 n)] w (Rd w (readA s at_ n).1 (readA s at_ n).2) := by
  unfold readA
  by_cases h : within s at_ n
  · rw [if_pos h]
    have P := Lib.hid (part_ok hl at_ n h)
    have S := Lib.hid (hl.cut_sl at_ n h)
    have L := Lib.hid (got_length hl.ok h)
    have M : n.toNat ≤ 1024 := by have := h.2.2.2.2; omega
    unfold cut at P
    generalize got s at_ n = l at S L ⊢
    generalize a.pb.getD (at_ / 1024).toNat 0 = b at P S
    generalize (at_ % 1024).toNat = o at P S
    generalize hm : n.toNat = m at P L M
    have R : Hid (∀ A c e w', e = Ending.returned (.tuple #[.slice A l.length c, .int .i64 0]) → Own w' w.heap.size 5 .u8 (.slice A l.length c) l → Chg (fun b => w.heap.size ≤ b) w w' → Rd w l 0 e w') := fun A c e w' he ho hc => ⟨A, c, he, ho, hc.mono fun i h1 h2 => by omega⟩
    clear h hl hx hm
    go_enter Try.func63, Try.ntmps63
    go_wp2_with (first | (go_at_call 93; refine (P.out).mono ?_; rintro e w' ⟨rfl, rfl⟩) | (at_builtin; refine wpList_app rfl _ _ 52 rfl w.heap.size 5 .u8 1 Try.underlying52 infoByte _ [] rfl (Own.lit w 5 .u8 [] (Nat.zero_le _)) (some ⟨b, 1 + o, none⟩) _ (1024 - o) l rfl L.out (S.out.later (Chg.alloc _ w _) (Nat.le_refl _)) (fun e => by cases e) ?h63 ?hby ?hba ?_; (case h63 => unfold maxLen; simp; omega); (case hby => simp; omega); (case hba => simp); intro A' c' n' w3 hn' hown hchg; obtain rfl : n' = l.length := (by rw [L.out]; simpa using hn'); have O3 : Hid (Own w3 w.heap.size 5 .u8 (.slice A' l.length c') l) := hown; have C3 : Hid (Chg (fun b => w.heap.size ≤ b) w w3) := (Chg.alloc _ w _).trans hchg; clear hn' hown hchg))
    go_ret2
    exact R.out _ _ _ _ rfl O3.out C3.out
  · rw [if_neg h]
    have P := Lib.hid (part_no hl at_ n hx h)
    have R : Hid (∀ e w', e = Ending.returned (.tuple #[.slice none 0 0, .int .i64 1]) → w = w' → Rd w [] 1 e w') := fun e w' he hw => by
      subst hw; exact ⟨none, 0, he, Own.nil _ _ _ _, Chg.refl _ _⟩
    clear h hl hx
    go_enter Try.func63, Try.ntmps63
    go_wp2_with (go_at_call 93; refine (P.out).mono ?_; rintro e w' ⟨rfl, rfl⟩)
    go_ret2
    exact R.out _ _ rfl rfl
theorem number_calls (hl : Lies w a s) (at_ n : Int) (hx : -9223372036854775808 ≤ at_ ∧ at_ ≤ 9223372036854775807) :
    Calls Try.prog 68 #[(.pointer (some ⟨a.g, 0, none⟩)), (.int .i64 at_), (.int .i64 n)] w fun e w' => e = .returned (.tuple #[.int .u64 (number s at_ n).1, .int .i64 (number s at_ n).2]) ∧ w = w' := by
  unfold number
  by_cases h : within s at_ n
  · rw [if_pos h]
    have P := Lib.hid (part_ok hl at_ n h)
    have L := got_length hl.ok h
    have M : n.toNat ≤ 1024 - (at_ % 1024).toNat := by have := h.2.2.2.2; omega
    unfold cut at P
    have G := get_calls (some ⟨a.pb.getD (at_ / 1024).toNat 0, 1 + (at_ % 1024).toNat, none⟩) (got s at_ n) (1024 - (at_ % 1024).toNat) 0 n w (hl.cut_sl at_ n h) (got_bytes hl.ok at_ n) (by omega) (by omega) (by decide)
    rw [L] at G
    generalize (getC (got s at_ n) 0 n).1 = x1 at G ⊢
    generalize (getC (got s at_ n) 0 n).2 = x2 at G ⊢
    generalize a.pb.getD (at_ / 1024).toNat 0 = b at P G
    generalize (at_ % 1024).toNat = o at P G
    generalize n.toNat = m at P G
    have G := Lib.hid G
    clear h hl hx L M
    go_enter Try.func68, Try.ntmps68
    go_wp2_with (first | (go_at_call 93; refine (P.out).mono ?_; rintro e w' ⟨rfl, rfl⟩) | (go_at_call 97; refine (G.out).mono ?_; rintro e w' ⟨rfl, rfl⟩))
    go_ret2
    exact ⟨rfl, rfl⟩
  · rw [if_neg h]
    have P := Lib.hid (part_no hl at_ n hx h)
    clear h hl hx
    go_enter Try.func68, Try.ntmps68
    go_wp2_with (go_at_call 93; refine (P.out).mono ?_; rintro e w' ⟨rfl, rfl⟩)
    go_ret2
    exact ⟨rfl, rfl⟩
theorem place_calls (hl : Lies w a s) (at_ : Int) (hx : -9223372036854775808 ≤ at_ ∧ at_ ≤ 9223372036854775807) :
    Calls Try.prog 69 #[(.pointer (some ⟨a.g, 0, none⟩)), (.int .i64 at_)] w fun e w' => e = .returned (.tuple #[.int .i64 (place s at_).1, .int .i64 (place s at_).2]) ∧ w = w' := by
  unfold place
  by_cases h : within s at_ 4
  · rw [if_pos h]
    have P := Lib.hid (part_ok hl at_ 4 h)
    have L := got_length hl.ok h
    have M : (4 : Int).toNat ≤ 1024 - (at_ % 1024).toNat := by have := h.2.2.2.2; omega
    unfold cut at P
    have G := getplace_calls (some ⟨a.pb.getD (at_ / 1024).toNat 0, 1 + (at_ % 1024).toNat, none⟩) (got s at_ 4) (1024 - (at_ % 1024).toNat) 0 w (hl.cut_sl at_ 4 h) (got_bytes hl.ok at_ 4) (by omega) (by omega) (by decide)
    rw [L] at G
    generalize (getPlaceC (got s at_ 4) 0).1 = x1 at G ⊢
    generalize (getPlaceC (got s at_ 4) 0).2 = x2 at G ⊢
    generalize a.pb.getD (at_ / 1024).toNat 0 = b at P G
    generalize (at_ % 1024).toNat = o at P G
    have G := Lib.hid G
    clear h hl hx L M
    go_enter Try.func69, Try.ntmps69
    go_wp2_with (first | (go_at_call 93; refine (P.out).mono ?_; rintro e w' ⟨rfl, rfl⟩) | (go_at_call 98; refine (G.out).mono ?_; rintro e w' ⟨rfl, rfl⟩))
    go_ret2
    exact ⟨rfl, rfl⟩
  · rw [if_neg h]
    have P := Lib.hid (part_no hl at_ 4 hx h)
    clear h hl hx
    go_enter Try.func69, Try.ntmps69
    go_wp2_with (go_at_call 93; refine (P.out).mono ?_; rintro e w' ⟨rfl, rfl⟩)
    go_ret2
    exact ⟨rfl, rfl⟩

/-! ### Write, SetNumber, SetPlace -/
/-- one answer, an error; the arena is so now; nothing else that was there has turned -/
def Now (w : World) (a : Ar) (s' : St) (err : Int) (e : Ending) (w' : World) : Prop :=
  e = .returned (.int .i64 err) ∧ Lies w' a s' ∧ Chg (· ∈ a.pb) w w'
theorem lay_got (hs : Ok s) {at_ n : Int} (h : within s at_ n) : lay s at_ (got s at_ n) = s := by
  have := in_row hs h
  unfold lay got
  rw [splice_self _ _ _ (by omega)]
theorem setnumber_calls (hl : Lies w a s) (at_ n v : Int) (hx : -9223372036854775808 ≤ at_ ∧ at_ ≤ 9223372036854775807) (h0 : 0 ≤ v) (h1 : v < 18446744073709551616) :
    Calls Try.prog 64 #[(.pointer (some ⟨a.g, 0, none⟩)), (.int .i64 at_), (.int .i64 n), (.int .u64 v)] w (Now w a (setNumber s at_ n v).1 (setNumber s at_ n v).2) := by
  unfold setNumber
  by_cases h : within s at_ n
  · rw [if_pos h]
    have P := Lib.hid (part_ok hl at_ n h)
    have L := got_length hl.ok h
    have hp := page_of h
    have hP := pg_length hl.ok _ hp
    have M : (at_ % 1024).toNat + n.toNat ≤ 1024 := by have := h.2.2.2.2; have := h.1; omega
    unfold cut at P
    have G := put_calls (a.pb.getD (at_ / 1024).toNat 0) (1 + (at_ % 1024).toNat) (1024 - (at_ % 1024).toNat) 153 (pageCells (s.own.getD (at_ / 1024).toNat 0) (pg s.B (at_ / 1024).toNat)) (got s at_ n) 0 n v w (hl.page _ hp) (by rw [pageCells_length]; omega) (by omega) (by omega) (by decide) h0 h1
    rw [L, got_page hl.ok h, putRow_page _ _ _ _ _ (by omega), ← got_page hl.ok h] at G
    have R : Hid (∀ e w', e = Ending.returned (.int .i64 (putC (got s at_ n) 0 n v).2) → w' = w.setRow (a.pb.getD (at_ / 1024).toNat 0) (pageCells (s.own.getD (at_ / 1024).toNat 0) (splice (pg s.B (at_ / 1024).toNat) (at_ % 1024).toNat (putC (got s at_ n) 0 n v).1)).toArray → Now w a (lay s at_ (putC (got s at_ n) 0 n v).1) (putC (got s at_ n) 0 n v).2 e w') := fun e w' he hw => by
      subst hw
      have := hl.lay at_ (putC (got s at_ n) 0 n v).1 (by rw [putC_len, L, Int.toNat_of_nonneg h.1]; exact h) (bytes_putC _ _ _ _ (got_bytes hl.ok at_ n)) (Chg.setRow w _ _ rfl) (setRow_heap w _ _ _ _ (0, 0) (hl.page _ hp))
      exact ⟨he, this.1, this.2⟩
    generalize (putC (got s at_ n) 0 n v).2 = x2 at G R ⊢
    generalize a.pb.getD (at_ / 1024).toNat 0 = b at P G R
    generalize lay s at_ (putC (got s at_ n) 0 n v).1 = s' at R ⊢
    generalize (pageCells (s.own.getD (at_ / 1024).toNat 0) (splice (pg s.B (at_ / 1024).toNat) (at_ % 1024).toNat (putC (got s at_ n) 0 n v).1)).toArray = cs at G R
    generalize (at_ % 1024).toNat = o at P G
    generalize n.toNat = m at P G
    have G := Lib.hid G
    clear h hl hx L M hP hp h0 h1
    go_enter Try.func64, Try.ntmps64
    go_wp2_with (first | (go_at_call 93; refine (P.out).mono ?_; rintro e w' ⟨rfl, rfl⟩) | (go_at_call 95; refine (G.out).mono ?_; rintro e w' ⟨rfl, rfl⟩))
    go_ret
    exact R.out _ _ rfl rfl
  · rw [if_neg h]
    have P := Lib.hid (part_no hl at_ n hx h)
    have R : Hid (∀ e w', e = Ending.returned (.int .i64 1) → w = w' → Now w a s 1 e w') := fun e w' he hw => by subst hw; exact ⟨he, hl, Chg.refl _ _⟩
    clear h hl hx h0 h1
    go_enter Try.func64, Try.ntmps64
    go_wp2_with (go_at_call 93; refine (P.out).mono ?_; rintro e w' ⟨rfl, rfl⟩)
    go_ret
    exact R.out _ _ rfl rfl
theorem setplace_calls (hl : Lies w a s) (at_ p : Int) (hx : -9223372036854775808 ≤ at_ ∧ at_ ≤ 9223372036854775807) (hv : -9223372036854775808 ≤ p ∧ p ≤ 9223372036854775807) :
    Calls Try.prog 67 #[(.pointer (some ⟨a.g, 0, none⟩)), (.int .i64 at_), (.int .i64 p)] w (Now w a (setPlace s at_ p).1 (setPlace s at_ p).2) := by
  unfold setPlace
  by_cases h : within s at_ 4
  · rw [if_pos h]
    have P := Lib.hid (part_ok hl at_ 4 h)
    have L := got_length hl.ok h
    have hp := page_of h
    have hP := pg_length hl.ok _ hp
    have M : (at_ % 1024).toNat + 4 ≤ 1024 := by have := h.2.2.2.2; omega
    have e4 : (4 : Int).toNat = 4 := rfl
    unfold cut at P
    have G := putplace_calls (a.pb.getD (at_ / 1024).toNat 0) (1 + (at_ % 1024).toNat) (1024 - (at_ % 1024).toNat) 153 (pageCells (s.own.getD (at_ / 1024).toNat 0) (pg s.B (at_ / 1024).toNat)) (got s at_ 4) 0 p w (hl.page _ hp) (by rw [pageCells_length]; omega) (by omega) (by omega) (by decide) hv
    rw [L, got_page hl.ok h, e4, putPlaceRow_page _ _ _ _ (by omega), ← e4, ← got_page hl.ok h] at G
    have R : Hid (∀ e w', e = Ending.returned (.int .i64 (putPlaceC (got s at_ 4) 0 p).2) → w' = w.setRow (a.pb.getD (at_ / 1024).toNat 0) (pageCells (s.own.getD (at_ / 1024).toNat 0) (splice (pg s.B (at_ / 1024).toNat) (at_ % 1024).toNat (putPlaceC (got s at_ 4) 0 p).1)).toArray → Now w a (lay s at_ (putPlaceC (got s at_ 4) 0 p).1) (putPlaceC (got s at_ 4) 0 p).2 e w') := fun e w' he hw => by
      subst hw
      have := hl.lay at_ (putPlaceC (got s at_ 4) 0 p).1 (by rw [putPlaceC_length, L]; exact h) (bytes_putPlaceC _ _ _ (got_bytes hl.ok at_ 4)) (Chg.setRow w _ _ rfl) (setRow_heap w _ _ _ _ (0, 0) (hl.page _ hp))
      exact ⟨he, this.1, this.2⟩
    generalize (putPlaceC (got s at_ 4) 0 p).2 = x2 at G R ⊢
    generalize a.pb.getD (at_ / 1024).toNat 0 = b at P G R
    generalize lay s at_ (putPlaceC (got s at_ 4) 0 p).1 = s' at R ⊢
    generalize (pageCells (s.own.getD (at_ / 1024).toNat 0) (splice (pg s.B (at_ / 1024).toNat) (at_ % 1024).toNat (putPlaceC (got s at_ 4) 0 p).1)).toArray = cs at G R
    generalize (at_ % 1024).toNat = o at P G
    have G := Lib.hid G
    clear h hl hx L M hP hp e4 hv
    go_enter Try.func67, Try.ntmps67
    go_wp2_with (first | (go_at_call 93; refine (P.out).mono ?_; rintro e w' ⟨rfl, rfl⟩) | (go_at_call 96; refine (G.out).mono ?_; rintro e w' ⟨rfl, rfl⟩))
    go_ret
    exact R.out _ _ rfl rfl
  · rw [if_neg h]
    have P := Lib.hid (part_no hl at_ 4 hx h)
    have R : Hid (∀ e w', e = Ending.returned (.int .i64 1) → w = w' → Now w a s 1 e w') := fun e w' he hw => by subst hw; exact ⟨he, hl, Chg.refl _ _⟩
    clear h hl hx hv
    go_enter Try.func67, Try.ntmps67
    go_wp2_with (go_at_call 93; refine (P.out).mono ?_; rintro e w' ⟨rfl, rfl⟩)
    go_ret
    exact R.out _ _ rfl rfl

end Go.Proofs.Ytolpjgpimholcaa.Arena
