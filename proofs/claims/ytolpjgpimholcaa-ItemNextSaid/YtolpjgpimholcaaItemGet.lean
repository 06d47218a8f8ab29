/- Fields of an item's header: the program's spots, place, Get, Set and the reference's where, Get, Set: what each answers, and what it writes. -/
import Derived.Test.YtolpjgpimholcaaLinksPure
import Derived.Test.YtolpjgpimholcaaRefArena3
import Derived.Laws.Rows
namespace Go.Proofs.Ytolpjgpimholcaa.Item
open Go Go.RowKit Go.Proofs.Ytolpjgpimholcaa.Mem Go.Proofs.Ytolpjgpimholcaa.CodecPure Go.Proofs.Ytolpjgpimholcaa.ArenaPure Go.Proofs.Ytolpjgpimholcaa.Codec Go.Proofs.Ytolpjgpimholcaa.Arena
set_option linter.unusedVariables false
set_option maxRecDepth 100000
variable {w w' : World} {a : Ar} {s : St}
/-- all places and widths of fields -/
def SP : Array Value := #[.int .i64 0, .int .i64 4, .int .i64 4, .int .i64 4, .int .i64 8, .int .i64 4, .int .i64 12, .int .i64 4, .int .i64 16, .int .i64 8, .int .i64 24, .int .i64 4, .int .i64 28, .int .i64 4, .int .i64 32, .int .i64 2, .int .i64 34, .int .i64 1, .int .i64 35, .int .i64 1, .int .i64 36, .int .i64 1, .int .i64 37, .int .i64 1]
theorem wpList_build_all {P : Program} {ops : Array Oper} {rest : List Oper} {o : Oper} {a : Act} {w : World} {Q : Exit → Act → World → Prop} (hg : o.guard = none) (t : TypeId) (parts : Array (Nat × Operand)) (ho : o.op = .build t parts)
    (cells : Array Value) (hf : P.built t (parts.map fun (i, x) => (i, a.eval x)).toList = some cells)
    (h : wpList P ops Q rest (a.put o.dst (.agg cells)) w) : wpList P ops Q (o :: rest) a w :=
  wpList_build hg t parts ho (by rw [hf]; rfl) (by rw [hf]; exact h)
def Z24 : Array Value := #[.int .i64 0, .int .i64 0, .int .i64 0, .int .i64 0, .int .i64 0, .int .i64 0, .int .i64 0, .int .i64 0, .int .i64 0, .int .i64 0, .int .i64 0, .int .i64 0, .int .i64 0, .int .i64 0, .int .i64 0, .int .i64 0, .int .i64 0, .int .i64 0, .int .i64 0, .int .i64 0, .int .i64 0, .int .i64 0, .int .i64 0, .int .i64 0]
set_option maxHeartbeats 1000000 in
theorem spots_calls (w : World) : Calls Try.prog 65 #[] w fun e w' => e = .returned (.agg SP) ∧ Chg (fun _ => False) w w' := by
  have hb : Hid ((w.alloc (.cells Z24 107)).heap[w.heap.size]? = some (.cells Z24 107 (0, 0))) := heap_alloc_at w _
  have F : Hid (∀ e w', e = Ending.returned (.agg SP) → w' = (w.alloc (.cells Z24 107)).setRow w.heap.size SP → e = Ending.returned (.agg SP) ∧ Chg (fun _ => False) w w') := fun e w' he hw => by
    subst hw
    refine ⟨he, ((Chg.alloc _ w _).trans (Chg.setRow (S := fun b => b = w.heap.size) _ _ _ rfl)).mono fun i h1 h2 => by omega⟩
  have hr : Hid (((w.alloc (.cells Z24 107)).setRow w.heap.size SP).heap[w.heap.size]? = some (.cells SP 107 (0, 0))) := setRow_heap _ _ _ _ _ (0, 0) hb.out
  go_enter Try.func65, Try.ntmps65
  go_wp2_with (first | (refine wpList_build_all rfl 107 _ rfl SP (by kernel_rfl) ?_) | (refine wpList_store_row rfl 107 (.tmp 0) (.tmp 13) rfl w.heap.size SP rfl rfl 107 Z24 hb.out (by kernel_rfl) rfl (by kernel_rfl) ?_))
  exact bodyPost_ret (v := .agg SP) (results_cell_row rfl _ _ w.heap.size 107 SP (0, 0) _ rfl hr.out Try.underlying107 rfl (by kernel_rfl)) rfl (F.out _ _ rfl rfl)
theorem place_yes (n : Int) (w : World) (h : n ≤ 3) : Calls Try.prog 71 #[(.int .i64 n)] w fun e w' => e = .returned (.bool true) ∧ w = w' := by
  go_enter Try.func71, Try.ntmps71
  go_wp2
  go_ret
  exact ⟨rfl, rfl⟩
theorem place_no (n : Int) (w : World) (h : 3 < n) : Calls Try.prog 71 #[(.int .i64 n)] w fun e w' => e = .returned (.bool false) ∧ w = w' := by
  go_enter Try.func71, Try.ntmps71
  go_wp2
  go_ret
  exact ⟨retb (decide_eq_false (by omega)), rfl⟩
theorem number_range (hs : Ok s) (at_ w : Int) (hw : w ≤ 4) : 0 ≤ (number s at_ w).1 ∧ (number s at_ w).1 < 4294967296 := by
  unfold number
  by_cases h : within s at_ w
  · rw [if_pos h]
    unfold getC
    split
    · rename_i ht
      have R := le_range (((got s at_ w).drop (0 : Int).toNat).take w.toNat) (fun x hx => got_bytes hs at_ w x (List.mem_of_mem_drop (List.mem_of_mem_take hx)))
      refine ⟨R.1, Int.lt_of_lt_of_le R.2 ?_⟩
      have hl : (((got s at_ w).drop (0 : Int).toNat).take w.toNat).length ≤ 4 := by rw [List.length_take]; omega
      generalize (((got s at_ w).drop (0 : Int).toNat).take w.toNat).length = n at hl
      have key : ∀ m : Fin 5, (2 : Int) ^ (8 * m.val) ≤ 4294967296 := by decide +kernel
      exact key ⟨n, by omega⟩
    · exact ⟨Int.le_refl _, by decide⟩
  · rw [if_neg h]
    exact ⟨Int.le_refl _, by decide⟩
theorem index_spot (f : Int) (h0 : 0 ≤ f) (h1 : f ≤ 11) : ∀ W : World, (Instr.index 107 (.agg SP) (.int .i64 f)).run Try.prog W = .ok (.agg #[.int .i64 (fat f), .int .i64 (fw f)]) W := by
  have h : f = 0 ∨ f = 1 ∨ f = 2 ∨ f = 3 ∨ f = 4 ∨ f = 5 ∨ f = 6 ∨ f = 7 ∨ f = 8 ∨ f = 9 ∨ f = 10 ∨ f = 11 := by omega
  rcases h with rfl | rfl | rfl | rfl | rfl | rfl | rfl | rfl | rfl | rfl | rfl | rfl
  all_goals exact fun W => by kernel_rfl
/-- two answers, numbers; nothing that was there has turned -/
def Ans2 (w : World) (x y : Int) (e : Ending) (w' : World) : Prop := e = .returned (.tuple #[.int .i64 x, .int .i64 y]) ∧ Chg (fun _ => False) w w'
theorem fat_range (f : Int) (h0 : 0 ≤ f) (h1 : f ≤ 11) : 0 ≤ fat f ∧ fat f ≤ 37 := by
  unfold fat
  split <;> (try split) <;> (try split) <;> (try split) <;> omega
theorem get_calls (hl : Lies w a s) (at_ f : Int) (hx : -9223372036854775808 ≤ at_ ∧ at_ ≤ 9223372036854775807) :
    Calls Try.prog 23 #[(.pointer (some ⟨a.g, 0, none⟩)), (.int .i64 at_), (.int .i64 f)] w (Ans2 w (itemGet s at_ f).1 (itemGet s at_ f).2) := by
  unfold itemGet
  by_cases hf : f < 0 ∨ 11 < f ∨ f = 4
  · rw [if_pos hf]
    have R : Hid (∀ e w', e = Ending.returned (.tuple #[.int .i64 0, .int .i64 6]) → w = w' → Ans2 w 0 6 e w') := fun e w' he hw => by subst hw; exact ⟨he, Chg.refl _ _⟩
    clear hl
    rcases hf with h | h | rfl
    · go_enter Try.func23, Try.ntmps23
      go_wp2
      go_ret2
      exact R.out _ _ rfl rfl
    · have h' : ¬ f < 0 := by omega
      go_enter Try.func23, Try.ntmps23
      go_wp2
      go_ret2
      exact R.out _ _ rfl rfl
    · go_enter Try.func23, Try.ntmps23
      go_wp2
      go_ret2
      exact R.out _ _ rfl rfl
  rw [if_neg hf]
  have r1 := hl.ok.high
  have PC := Lib.hid (pages_calls hl)
  by_cases ha : at_ < 0 ∨ 1024 * (s.own.length : Int) < at_
  · rw [if_pos ha]
    have R : Hid (∀ e w', e = Ending.returned (.tuple #[.int .i64 0, .int .i64 1]) → w = w' → Ans2 w 0 1 e w') := fun e w' he hw => by subst hw; exact ⟨he, Chg.refl _ _⟩
    have f1 : ¬ f < 0 := by omega
    have f2 : ¬ 11 < f := by omega
    have f3 : (f == 4) = false := by rw [beq_eq_false_iff_ne]; omega
    generalize s.own.length = N at PC r1 ha
    clear hl hf
    rcases ha with h | h
    · go_enter Try.func23, Try.ntmps23
      go_wp2
      go_ret2
      exact R.out _ _ rfl rfl
    · have h' : ¬ at_ < 0 := by omega
      have h2 : (N : Int) * 1024 < at_ := by omega
      go_enter Try.func23, Try.ntmps23
      go_wp2_with (go_at_call 70; refine (PC.out).mono ?_; rintro e w' ⟨rfl, rfl⟩)
      go_ret2
      exact R.out _ _ rfl rfl
  rw [if_neg ha]
  have IX := index_spot f (by omega) (by omega)
  have fr := fat_range f (by omega) (by omega)
  have f1 : ¬ f < 0 := by omega
  have f2 : ¬ 11 < f := by omega
  have f3 : (f == 4) = false := by rw [beq_eq_false_iff_ne]; omega
  have a1 : ¬ at_ < 0 := by omega
  have a2 : at_ ≤ (s.own.length : Int) * 1024 := by omega
  have a3 : at_ ≤ 32768 := by omega
  have H0 := Lib.hid hl
  by_cases h3 : f ≤ 3
  · rw [if_pos h3]
    have PL : Hid (∀ W, Lies W a s → Calls Try.prog 69 #[(.pointer (some ⟨a.g, 0, none⟩)), (.int .i64 (at_ + fat f))] W fun e w' => e = .returned (.tuple #[.int .i64 (place s (at_ + fat f)).1, .int .i64 (place s (at_ + fat f)).2]) ∧ W = w') := fun W h => place_calls h _ (by omega)
    have YP := Lib.hid (fun W => place_yes f W h3)
    generalize (place s (at_ + fat f)).1 = x1 at PL ⊢
    generalize (place s (at_ + fat f)).2 = x2 at PL ⊢
    generalize fat f = q at IX PL fr
    obtain ⟨fr1, fr2⟩ := fr
    generalize fw f = u at IX
    generalize s.own.length = N at PC r1 a2
    clear hl hf ha
    go_enter Try.func23, Try.ntmps23
    go_wp2_with (go_at_call 70; refine (PC.out).mono ?_; rintro e w' ⟨rfl, rfl⟩)
    refine (spots_calls w).mono ?_
    rintro e w1 ⟨rfl, c1⟩
    have C1 := Lib.hid c1
    clear c1
    generalize SP = sp at IX ⊢
    have H1 : Hid (Lies (w1.alloc (.cells #[.int .i64 q, .int .i64 u] 106)) a s) := H0.out.chg (C1.out.trans (Chg.alloc _ _ _)) id id fun _ _ => id
    go_wp2_with (first | (go_at_call 71; refine (YP.out _).mono ?_; rintro e w' ⟨rfl, rfl⟩) | (go_at_call 69; refine (PL.out _ H1.out).mono ?_; rintro e w' ⟨rfl, rfl⟩))
    go_ret2
    exact ⟨rfl, C1.out.trans (Chg.alloc _ _ _)⟩
  · rw [if_neg h3]
    have NL : Hid (∀ W, Lies W a s → Calls Try.prog 68 #[(.pointer (some ⟨a.g, 0, none⟩)), (.int .i64 (at_ + fat f)), (.int .i64 (fw f))] W fun e w' => e = .returned (.tuple #[.int .u64 (number s (at_ + fat f) (fw f)).1, .int .i64 (number s (at_ + fat f) (fw f)).2]) ∧ W = w') := fun W h => number_calls h _ _ (by omega)
    have YP := Lib.hid (fun W => place_no f W (by omega))
    have nr := number_range hl.ok (at_ + fat f) (fw f) (by unfold fw; split <;> (try split) <;> (try split) <;> (try split) <;> omega)
    generalize (number s (at_ + fat f) (fw f)).1 = x1 at NL nr ⊢
    generalize (number s (at_ + fat f) (fw f)).2 = x2 at NL ⊢
    generalize fat f = q at IX NL fr
    obtain ⟨fr1, fr2⟩ := fr
    generalize fw f = u at IX NL
    generalize s.own.length = N at PC r1 a2
    obtain ⟨nr1, nr2⟩ := nr
    have h3' : 3 < f := by omega
    clear hl hf ha h3
    go_enter Try.func23, Try.ntmps23
    go_wp2_with (go_at_call 70; refine (PC.out).mono ?_; rintro e w' ⟨rfl, rfl⟩)
    refine (spots_calls w).mono ?_
    rintro e w1 ⟨rfl, c1⟩
    have C1 := Lib.hid c1
    clear c1
    generalize SP = sp at IX ⊢
    have H1 : Hid (Lies (w1.alloc (.cells #[.int .i64 q, .int .i64 u] 106)) a s) := H0.out.chg (C1.out.trans (Chg.alloc _ _ _)) id id fun _ _ => id
    go_wp2_with (first | (go_at_call 71; refine (YP.out _).mono ?_; rintro e w' ⟨rfl, rfl⟩) | (go_at_call 68; refine (NL.out _ H1.out).mono ?_; rintro e w' ⟨rfl, rfl⟩))
    go_ret2
    exact ⟨rfl, C1.out.trans (Chg.alloc _ _ _)⟩
theorem set_calls (hl : Lies w a s) (at_ f v : Int) (hx : -9223372036854775808 ≤ at_ ∧ at_ ≤ 9223372036854775807) (hv : -9223372036854775808 ≤ v ∧ v ≤ 9223372036854775807) :
    Calls Try.prog 24 #[(.pointer (some ⟨a.g, 0, none⟩)), (.int .i64 at_), (.int .i64 f), (.int .i64 v)] w (Now w a (itemSet s at_ f v).1 (itemSet s at_ f v).2) := by
  unfold itemSet
  by_cases hf : f < 0 ∨ 11 < f ∨ f = 4
  · rw [if_pos hf]
    have R : Hid (∀ e w', e = Ending.returned (.int .i64 6) → w = w' → Now w a s 6 e w') := fun e w' he hw => by subst hw; exact ⟨he, hl, Chg.refl _ _⟩
    clear hl
    rcases hf with h | h | rfl
    · go_enter Try.func24, Try.ntmps24
      go_wp2
      go_ret
      exact R.out _ _ rfl rfl
    · have h' : ¬ f < 0 := by omega
      go_enter Try.func24, Try.ntmps24
      go_wp2
      go_ret
      exact R.out _ _ rfl rfl
    · go_enter Try.func24, Try.ntmps24
      go_wp2
      go_ret
      exact R.out _ _ rfl rfl
  rw [if_neg hf]
  have r1 := hl.ok.high
  have PC := Lib.hid (pages_calls hl)
  by_cases ha : at_ < 0 ∨ 1024 * (s.own.length : Int) < at_
  · rw [if_pos ha]
    have R : Hid (∀ e w', e = Ending.returned (.int .i64 1) → w = w' → Now w a s 1 e w') := fun e w' he hw => by subst hw; exact ⟨he, hl, Chg.refl _ _⟩
    have f1 : ¬ f < 0 := by omega
    have f2 : ¬ 11 < f := by omega
    have f3 : (f == 4) = false := by rw [beq_eq_false_iff_ne]; omega
    generalize s.own.length = N at PC r1 ha
    clear hl hf
    rcases ha with h | h
    · go_enter Try.func24, Try.ntmps24
      go_wp2
      go_ret
      exact R.out _ _ rfl rfl
    · have h' : ¬ at_ < 0 := by omega
      have h2 : (N : Int) * 1024 < at_ := by omega
      go_enter Try.func24, Try.ntmps24
      go_wp2_with (go_at_call 70; refine (PC.out).mono ?_; rintro e w' ⟨rfl, rfl⟩)
      go_ret
      exact R.out _ _ rfl rfl
  rw [if_neg ha]
  have IX := index_spot f (by omega) (by omega)
  have fr := fat_range f (by omega) (by omega)
  have f1 : ¬ f < 0 := by omega
  have f2 : ¬ 11 < f := by omega
  have f3 : (f == 4) = false := by rw [beq_eq_false_iff_ne]; omega
  have a1 : ¬ at_ < 0 := by omega
  have a2 : at_ ≤ (s.own.length : Int) * 1024 := by omega
  have a3 : at_ ≤ 32768 := by omega
  have H0 := Lib.hid hl
  by_cases h3 : f ≤ 3
  · rw [if_pos h3]
    have PL : Hid (∀ W, Lies W a s → Calls Try.prog 67 #[(.pointer (some ⟨a.g, 0, none⟩)), (.int .i64 (at_ + fat f)), (.int .i64 v)] W (Now W a (setPlace s (at_ + fat f) v).1 (setPlace s (at_ + fat f) v).2)) := fun W h => setplace_calls h _ _ (by omega) hv
    have YP := Lib.hid (fun W => place_yes f W h3)
    generalize (setPlace s (at_ + fat f) v).1 = x1 at PL ⊢
    generalize (setPlace s (at_ + fat f) v).2 = x2 at PL ⊢
    generalize fat f = q at IX PL fr
    obtain ⟨fr1, fr2⟩ := fr
    generalize fw f = u at IX
    generalize s.own.length = N at PC r1 a2
    clear hl hf ha hv
    go_enter Try.func24, Try.ntmps24
    go_wp2_with (go_at_call 70; refine (PC.out).mono ?_; rintro e w' ⟨rfl, rfl⟩)
    refine (spots_calls w).mono ?_
    rintro e w1 ⟨rfl, c1⟩
    have C1 := Lib.hid c1
    clear c1
    generalize SP = sp at IX ⊢
    have H1 : Hid (Lies (w1.alloc (.cells #[.int .i64 q, .int .i64 u] 106)) a s) := H0.out.chg (C1.out.trans (Chg.alloc _ _ _)) id id fun _ _ => id
    go_wp2_with (go_at_call 71; refine (YP.out _).mono ?_; rintro e w' ⟨rfl, rfl⟩)
    refine (PL.out _ H1.out).mono ?_
    rintro e w2 ⟨rfl, l2, c2⟩
    have F : Hid (∀ e w', e = Ending.returned (.int .i64 x2) → w2 = w' → Now w a x1 x2 e w') := fun e w' he hw => by
      subst hw
      exact ⟨he, l2, ((C1.out.trans (Chg.alloc _ _ _)).mono fun _ _ h => h.elim).trans c2⟩
    clear l2 c2
    go_wp2
    go_ret
    exact F.out _ _ rfl rfl
  · rw [if_neg h3]
    have YP := Lib.hid (fun W => place_no f W (by omega))
    have h3' : 3 < f := by omega
    by_cases hv0 : v < 0
    · rw [if_pos hv0]
      generalize fat f = q at IX fr
      generalize fw f = u at IX
      generalize s.own.length = N at PC r1 a2
      clear hl hf ha h3 hv
      go_enter Try.func24, Try.ntmps24
      go_wp2_with (go_at_call 70; refine (PC.out).mono ?_; rintro e w' ⟨rfl, rfl⟩)
      refine (spots_calls w).mono ?_
      rintro e w1 ⟨rfl, c1⟩
      have C1 := Lib.hid c1
      clear c1
      generalize SP = sp at IX ⊢
      have H1 : Hid (Lies (w1.alloc (.cells #[.int .i64 q, .int .i64 u] 106)) a s) := H0.out.chg (C1.out.trans (Chg.alloc _ _ _)) id id fun _ _ => id
      go_wp2_with (go_at_call 71; refine (YP.out _).mono ?_; rintro e w' ⟨rfl, rfl⟩)
      go_ret
      exact ⟨rfl, H1.out, (C1.out.trans (Chg.alloc _ _ _)).mono fun _ _ h => h.elim⟩
    · rw [if_neg hv0]
      have NL : Hid (∀ W, Lies W a s → Calls Try.prog 64 #[(.pointer (some ⟨a.g, 0, none⟩)), (.int .i64 (at_ + fat f)), (.int .i64 (fw f)), (.int .u64 v)] W (Now W a (setNumber s (at_ + fat f) (fw f) v).1 (setNumber s (at_ + fat f) (fw f) v).2)) := fun W h => setnumber_calls h _ _ _ (by omega) (by omega) (by omega)
      have wv : IntKind.u64.wrap v = v := by rw [u64_wrap]; omega
      generalize (setNumber s (at_ + fat f) (fw f) v).1 = x1 at NL ⊢
      generalize (setNumber s (at_ + fat f) (fw f) v).2 = x2 at NL ⊢
      generalize fat f = q at IX NL fr
      obtain ⟨fr1, fr2⟩ := fr
      generalize fw f = u at IX NL
      generalize s.own.length = N at PC r1 a2
      have hv0' : 0 ≤ v := by omega
      clear hl hf ha h3 hv hv0
      go_enter Try.func24, Try.ntmps24
      go_wp2_with (go_at_call 70; refine (PC.out).mono ?_; rintro e w' ⟨rfl, rfl⟩)
      refine (spots_calls w).mono ?_
      rintro e w1 ⟨rfl, c1⟩
      have C1 := Lib.hid c1
      clear c1
      generalize SP = sp at IX ⊢
      have H1 : Hid (Lies (w1.alloc (.cells #[.int .i64 q, .int .i64 u] 106)) a s) := H0.out.chg (C1.out.trans (Chg.alloc _ _ _)) id id fun _ _ => id
      go_wp2_with (go_at_call 71; refine (YP.out _).mono ?_; rintro e w' ⟨rfl, rfl⟩)
      refine (NL.out _ H1.out).mono ?_
      rintro e w2 ⟨rfl, l2, c2⟩
      have F : Hid (∀ e w', e = Ending.returned (.int .i64 x2) → w2 = w' → Now w a x1 x2 e w') := fun e w' he hw => by
        subst hw
        exact ⟨he, l2, ((C1.out.trans (Chg.alloc _ _ _)).mono fun _ _ h => h.elim).trans c2⟩
      clear l2 c2
      go_wp2
      go_ret
      exact F.out _ _ rfl rfl
/-! ### the reference's -/
variable {r : Ra}
/-- the reference's place and width: nought, nought where there is no such field -/
theorem where_calls (f : Int) (w : World) (h0 : 0 ≤ f) (h1 : f ≤ 11) : Calls Try.prog 107 #[(.int .i64 f)] w fun e w' => e = .returned (.tuple #[.int .i64 (fat f), .int .i64 (fw f)]) ∧ w = w' := by
  have h : f = 0 ∨ f = 1 ∨ f = 2 ∨ f = 3 ∨ f = 4 ∨ f = 5 ∨ f = 6 ∨ f = 7 ∨ f = 8 ∨ f = 9 ∨ f = 10 ∨ f = 11 := by omega
  clear h0 h1
  rcases h with rfl | rfl | rfl | rfl | rfl | rfl | rfl | rfl | rfl | rfl | rfl | rfl
  all_goals
    go_enter Try.func107, Try.ntmps107
    go_wp2
    go_ret2
    exact ⟨rfl, rfl⟩
theorem where_no (f : Int) (w : World) (h : f < 0 ∨ 11 < f) : Calls Try.prog 107 #[(.int .i64 f)] w fun e w' => e = .returned (.tuple #[.int .i64 0, .int .i64 0]) ∧ w = w' := by
  have e0 : (f == 0) = false := by rw [beq_eq_false_iff_ne]; omega
  have e1 : (f == 1) = false := by rw [beq_eq_false_iff_ne]; omega
  have e2 : (f == 2) = false := by rw [beq_eq_false_iff_ne]; omega
  have e3 : (f == 3) = false := by rw [beq_eq_false_iff_ne]; omega
  have e4 : (f == 4) = false := by rw [beq_eq_false_iff_ne]; omega
  have e5 : (f == 5) = false := by rw [beq_eq_false_iff_ne]; omega
  have e6 : (f == 6) = false := by rw [beq_eq_false_iff_ne]; omega
  have e7 : (f == 7) = false := by rw [beq_eq_false_iff_ne]; omega
  have e8 : (f == 8) = false := by rw [beq_eq_false_iff_ne]; omega
  have e9 : (f == 9) = false := by rw [beq_eq_false_iff_ne]; omega
  have e10 : (f == 10) = false := by rw [beq_eq_false_iff_ne]; omega
  have e11 : (f == 11) = false := by rw [beq_eq_false_iff_ne]; omega
  clear h
  go_enter Try.func107, Try.ntmps107
  go_wp2
  go_ret2
  exact ⟨rfl, rfl⟩
theorem fw_pos (f : Int) : 0 < fw f := by
  unfold fw
  split <;> (try split) <;> (try split) <;> (try split) <;> omega
theorem refset_calls (hl : RLies w r s) (at_ f v : Int) (hx : -9223372036854775808 ≤ at_ ∧ at_ ≤ 9223372036854775807) (hv : -9223372036854775808 ≤ v ∧ v ≤ 9223372036854775807) :
    Calls Try.prog 82 #[(.pointer (some ⟨r.g, 0, none⟩)), (.int .i64 at_), (.int .i64 f), (.int .i64 v)] w (RNow w r (itemSet s at_ f v).1 (itemSet s at_ f v).2) := by
  unfold itemSet
  by_cases hf : f < 0 ∨ 11 < f ∨ f = 4
  · rw [if_pos hf]
    have R : Hid (∀ e w', e = Ending.returned (.int .i64 6) → w = w' → RNow w r s 6 e w') := fun e w' he hw => by subst hw; exact ⟨he, hl, Chg.refl _ _⟩
    clear hl
    by_cases h4 : f = 4
    · subst h4
      have W := Lib.hid (where_calls 4 w (by decide) (by decide))
      go_enter Try.func82, Try.ntmps82
      go_wp2_with (go_at_call 107; refine (W.out).mono ?_; rintro e w' ⟨rfl, rfl⟩)
      go_ret
      exact R.out _ _ rfl rfl
    · have W := Lib.hid (where_no f w (by omega))
      clear hf h4
      go_enter Try.func82, Try.ntmps82
      go_wp2_with (go_at_call 107; refine (W.out).mono ?_; rintro e w' ⟨rfl, rfl⟩)
      go_ret
      exact R.out _ _ rfl rfl
  rw [if_neg hf]
  have r1 := hl.ok.high
  have W := Lib.hid (where_calls f w (by omega) (by omega))
  have fp := fw_pos f
  have fz : (fw f == 0) = false := by rw [beq_eq_false_iff_ne]; omega
  have f3 : (f == 4) = false := by rw [beq_eq_false_iff_ne]; omega
  have k2 := hl.hdB
  rw [hl.ok.len] at k2
  have hcast : ((1024 * s.own.length : Nat) : Int) = 1024 * (s.own.length : Int) := by omega
  have fr := fat_range f (by omega) (by omega)
  have H0 := Lib.hid hl
  by_cases ha : at_ < 0 ∨ 1024 * (s.own.length : Int) < at_
  · rw [if_pos ha]
    have R : Hid (∀ e w', e = Ending.returned (.int .i64 1) → w = w' → RNow w r s 1 e w') := fun e w' he hw => by subst hw; exact ⟨he, hl, Chg.refl _ _⟩
    generalize 1024 * s.own.length = N at k2 hcast
    rw [← hcast] at ha
    generalize fat f = q at W
    generalize fw f = u at W fz
    clear hl hf hcast fp fr
    rcases ha with h | h
    · go_enter Try.func82, Try.ntmps82
      go_wp2_with (go_at_call 107; refine (W.out).mono ?_; rintro e w' ⟨rfl, rfl⟩)
      go_ret
      exact R.out _ _ rfl rfl
    · have h' : ¬ at_ < 0 := by omega
      go_enter Try.func82, Try.ntmps82
      go_wp2_with (go_at_call 107; refine (W.out).mono ?_; rintro e w' ⟨rfl, rfl⟩)
      go_ret
      exact R.out _ _ rfl rfl
  rw [if_neg ha]
  have a1 : ¬ at_ < 0 := by omega
  have a3 : at_ ≤ 32768 := by omega
  by_cases h3 : f ≤ 3
  · rw [if_pos h3]
    have PL := Lib.hid (refsetplace_calls hl (at_ + fat f) v (by omega) hv)
    generalize (setPlace s (at_ + fat f) v).1 = x1 at PL ⊢
    generalize (setPlace s (at_ + fat f) v).2 = x2 at PL ⊢
    generalize 1024 * s.own.length = N at k2 hcast
    rw [← hcast] at ha
    have a2 : at_ ≤ N := by omega
    have h3' : f < 4 := by omega
    generalize fat f = q at W PL fr
    generalize fw f = u at W fz
    obtain ⟨fr1, fr2⟩ := fr
    clear hl hf ha hv hcast fp h3
    go_enter Try.func82, Try.ntmps82
    go_wp2_with (go_at_call 107; refine (W.out).mono ?_; rintro e w' ⟨rfl, rfl⟩)
    refine PL.out.mono ?_
    rintro e w2 ⟨rfl, l2, c2⟩
    have F : Hid (∀ e w', e = Ending.returned (.int .i64 x2) → w2 = w' → RNow w r x1 x2 e w') := fun e w' he hw => by
      subst hw
      exact ⟨he, l2, c2⟩
    clear l2 c2
    go_wp2
    go_ret
    exact F.out _ _ rfl rfl
  · rw [if_neg h3]
    have h3' : 4 ≤ f := by omega
    by_cases hv0 : v < 0
    · rw [if_pos hv0]
      generalize 1024 * s.own.length = N at k2 hcast
      rw [← hcast] at ha
      have a2 : at_ ≤ N := by omega
      generalize fat f = q at W
      generalize fw f = u at W fz
      clear hl hf ha hv hcast fp fr h3
      go_enter Try.func82, Try.ntmps82
      go_wp2_with (go_at_call 107; refine (W.out).mono ?_; rintro e w' ⟨rfl, rfl⟩)
      go_ret
      exact ⟨rfl, H0.out, Chg.refl _ _⟩
    · rw [if_neg hv0]
      have NL := Lib.hid (refsetnumber_calls hl (at_ + fat f) (fw f) v (by omega) (by omega) (by omega))
      have wv : IntKind.u64.wrap v = v := by rw [u64_wrap]; omega
      generalize (setNumber s (at_ + fat f) (fw f) v).1 = x1 at NL ⊢
      generalize (setNumber s (at_ + fat f) (fw f) v).2 = x2 at NL ⊢
      generalize 1024 * s.own.length = N at k2 hcast
      rw [← hcast] at ha
      have a2 : at_ ≤ N := by omega
      generalize fat f = q at W NL fr
      obtain ⟨fr1, fr2⟩ := fr
      generalize fw f = u at W fz NL
      have hv0' : 0 ≤ v := by omega
      clear hl hf ha hv hcast fp h3 hv0
      go_enter Try.func82, Try.ntmps82
      go_wp2_with (go_at_call 107; refine (W.out).mono ?_; rintro e w' ⟨rfl, rfl⟩)
      refine NL.out.mono ?_
      rintro e w2 ⟨rfl, l2, c2⟩
      have F : Hid (∀ e w', e = Ending.returned (.int .i64 x2) → w2 = w' → RNow w r x1 x2 e w') := fun e w' he hw => by
        subst hw
        exact ⟨he, l2, c2⟩
      clear l2 c2
      go_wp2
      go_ret
      exact F.out _ _ rfl rfl
end Go.Proofs.Ytolpjgpimholcaa.Item
