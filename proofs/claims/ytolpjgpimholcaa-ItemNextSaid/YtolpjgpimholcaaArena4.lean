/- The program's arena: Grant and New: what each answers, and what it writes. -/
import Derived.Test.YtolpjgpimholcaaArena3
namespace Go.Proofs.Ytolpjgpimholcaa.Mem
open Go Go.RowKit
set_option linter.unusedVariables false
set_option maxRecDepth 100000
theorem wpList_build_one {P : Program} {ops : Array Oper} {rest : List Oper} {o : Oper} {a : Act} {w : World} {Q : Exit → Act → World → Prop} (hg : o.guard = none) (t : TypeId) (i : Nat) (x : Operand) (ho : o.op = .build t #[(i, x)])
    (v : Value) (hv : a.eval x = v) (cells : Array Value) (hf : P.built t [(i, v)] = some cells)
    (h : wpList P ops Q rest (a.put o.dst (.agg cells)) w) : wpList P ops Q (o :: rest) a w := by
  have e : (#[(i, x)].map fun (i, x) => (i, a.eval x)).toList = [(i, v)] := by simp [hv]
  exact wpList_build hg t _ ho (by rw [e, hf]; rfl) (by rw [e, hf]; exact h)
end Go.Proofs.Ytolpjgpimholcaa.Mem
namespace Go.Proofs.Ytolpjgpimholcaa.Arena
open Go Go.RowKit Go.Proofs.Ytolpjgpimholcaa.Mem Go.Proofs.Ytolpjgpimholcaa.CodecPure Go.Proofs.Ytolpjgpimholcaa.ArenaPure Go.Proofs.Ytolpjgpimholcaa.Codec
set_option linter.unusedVariables false
set_option maxRecDepth 100000
variable {w w' : World} {a : Ar} {s : St}

theorem page_built (c : Int) : Try.prog.built 153 [(0, .int .i64 c)] = some (pageCells c Z1024).toArray := by kernel_rfl
theorem page_one (c : Int) : (pageCells c Z1024).toArray.all (·.oneCell') = true := by
  rw [Array.all_eq_true_iff_forall_mem]
  intro x hx
  simp only [pageCells, nums, List.mem_toArray, List.mem_cons, List.mem_map] at hx
  rcases hx with rfl | ⟨y, _, rfl⟩ <;> rfl
theorem page_info : (Try.prog.info? 153).map (·.size) = some 1025 := by kernel_rfl
theorem first_eq (l : List Int) (k : Nat) (hk : k < l.length) (h0 : l.getD k 0 < 0) (h : ∀ j, j < k → 0 ≤ l.getD j 0) : first l = k := by
  unfold first
  rw [List.findIdx_eq hk]
  refine ⟨?_, fun j hj => ?_⟩
  · rw [List.getD_eq_getElem?_getD, List.getElem?_eq_getElem hk] at h0
    simpa using h0
  · have := h j hj
    rw [List.getD_eq_getElem?_getD, List.getElem?_eq_getElem (by omega)] at this
    simp at this ⊢; omega
theorem first_none (l : List Int) (h : ∀ j, j < l.length → 0 ≤ l.getD j 0) : ¬ first l < l.length := by
  unfold first
  rw [List.findIdx_lt_length]
  rintro ⟨x, hx, h1⟩
  obtain ⟨j, hj, rfl⟩ := List.mem_iff_getElem.1 hx
  have := h j hj
  rw [List.getD_eq_getElem?_getD, List.getElem?_eq_getElem hj] at this
  have h1 : l[j] < 0 := by simpa using h1
  have : 0 ≤ l[j] := by simpa using this
  omega
/-- the arena behind a grant -/
def granted (s : St) (k : Nat) (c : Int) : St := ⟨s.own.set k c, splice s.B (1024 * k) Z1024⟩
theorem granted_pg (hs : Ok s) (k j : Nat) (hk : k < s.own.length) (hj : j < s.own.length) : pg (splice s.B (1024 * k) Z1024) j = if j = k then Z1024 else pg s.B j := by
  have hlen := hs.len
  apply List.ext_getElem?
  intro i
  unfold pg
  rw [List.getElem?_take]
  by_cases hi : i < 1024
  · rw [if_pos hi, List.getElem?_drop, splice_get _ _ _ (by rw [Z1024_length]; omega), Z1024_length]
    by_cases e : j = k
    · rw [if_pos e, if_pos (by omega)]; congr 1; omega
    · rw [if_neg e, if_neg (by omega), List.getElem?_take, if_pos hi, List.getElem?_drop]
  · rw [if_neg hi]
    by_cases e : j = k
    · rw [if_pos e, List.getElem?_eq_none (by rw [Z1024_length]; omega)]
    · rw [if_neg e, List.getElem?_take, if_neg hi]
theorem granted_ok (hs : Ok s) (k : Nat) (c : Int) (hk : k < s.own.length) (hc : 0 ≤ c ∧ c < 8) : Ok (granted s k c) := by
  have hlen := hs.len
  exact ok_set hs k c hk ⟨by omega, hc.2⟩ _ (length_splice _ _ _ (by rw [Z1024_length]; omega)) (bytes_splice _ _ _ hs.bytes Z1024_bytes)
theorem Lies.grant (h : Lies w a s) (k : Nat) (c : Int) (hk : k < s.own.length) (hc : 0 ≤ c ∧ c < 8) : Lies (w.setRow (a.pb.getD k 0) (pageCells c Z1024).toArray) a (granted s k c) ∧ Chg (· ∈ a.pb) w (w.setRow (a.pb.getD k 0) (pageCells c Z1024).toArray) := by
  refine h.put (granted s k c) (granted_ok h.ok k c hk hc) (by simp [granted]) k hk (Chg.setRow w _ _ rfl) ?_ fun j hj e => ⟨?_, ?_⟩
  · rw [setRow_heap w _ _ _ _ (0, 0) (h.page k hk)]
    show some (Obj.cells _ _ _) = some (Obj.cells (pageCells ((s.own.set k c).getD k 0) (pg (splice s.B (1024 * k) Z1024) k)).toArray _ _)
    rw [getD_set _ _ _ _ hk, if_pos rfl, granted_pg h.ok k k hk hk, if_pos rfl]
  · show (s.own.set k c).getD j 0 = _
    rw [getD_set _ _ _ _ hk, if_neg e]
  · show pg (splice s.B (1024 * k) Z1024) j = _
    rw [granted_pg h.ok k j hk hj, if_neg e]
/-- two answers, numbers; the arena is so now; nothing else that was there has turned -/
def Now2 (w : World) (a : Ar) (s' : St) (x y : Int) (e : Ending) (w' : World) : Prop :=
  e = .returned (.tuple #[.int .i64 x, .int .i64 y]) ∧ Lies w' a s' ∧ Chg (· ∈ a.pb) w w'
set_option maxRecDepth 100000 in
theorem grant_calls (hl : Lies w a s) (c : Int) :
    Calls Try.prog 59 #[(.pointer (some ⟨a.g, 0, none⟩)), (.int .i64 c)] w (Now2 w a (grant s c).1 (grant s c).2.1 (grant s c).2.2) := by
  unfold grant
  by_cases h : c < 0 ∨ 8 ≤ c
  · rw [if_pos h]
    have R : Hid (∀ e w', e = Ending.returned (.tuple #[.int .i64 0, .int .i64 1]) → w = w' → Now2 w a s 0 1 e w') := fun e w' he hw => by subst hw; exact ⟨he, hl, Chg.refl _ _⟩
    clear hl
    rcases h with h | h
    · go_enter Try.func59, Try.ntmps59
      go_wp2
      go_ret2
      exact R.out _ _ rfl rfl
    · have h' : ¬ c < 0 := by omega
      go_enter Try.func59, Try.ntmps59
      go_wp2
      go_ret2
      exact R.out _ _ rfl rfl
  · rw [if_neg h]
    have h1 : 0 ≤ c := by omega
    have h2 : c < 8 := by omega
    have k1 := hl.hd
    have r := hl.ok.high
    have H := Lib.hid hl
    have HF : Hid (∀ k, k < s.own.length → s.own.getD k 0 < 0 → (∀ j, j < k → 0 ≤ s.own.getD j 0) → ∀ e w', e = Ending.returned (.tuple #[.int .i64 k, .int .i64 0]) → w' = w.setRow (a.pb.getD k 0) (pageCells c Z1024).toArray → Now2 w a (if first s.own < s.own.length then (⟨s.own.set (first s.own) c, splice s.B (1024 * first s.own) Z1024⟩, (first s.own : Int), 0) else (s, 0, 2) : St × Int × Int).1 (if first s.own < s.own.length then (⟨s.own.set (first s.own) c, splice s.B (1024 * first s.own) Z1024⟩, (first s.own : Int), 0) else (s, 0, 2) : St × Int × Int).2.1 (if first s.own < s.own.length then (⟨s.own.set (first s.own) c, splice s.B (1024 * first s.own) Z1024⟩, (first s.own : Int), 0) else (s, 0, 2) : St × Int × Int).2.2 e w') := fun k hk h0 hj e w' he hw => by
      rw [first_eq _ k hk h0 hj, if_pos hk]
      subst hw
      have := hl.grant k c hk ⟨h1, h2⟩
      exact ⟨he, this.1, this.2⟩
    have HN : Hid ((∀ j, j < s.own.length → 0 ≤ s.own.getD j 0) → ∀ e w', e = Ending.returned (.tuple #[.int .i64 0, .int .i64 2]) → w = w' → Now2 w a (if first s.own < s.own.length then (⟨s.own.set (first s.own) c, splice s.B (1024 * first s.own) Z1024⟩, (first s.own : Int), 0) else (s, 0, 2) : St × Int × Int).1 (if first s.own < s.own.length then (⟨s.own.set (first s.own) c, splice s.B (1024 * first s.own) Z1024⟩, (first s.own : Int), 0) else (s, 0, 2) : St × Int × Int).2.1 (if first s.own < s.own.length then (⟨s.own.set (first s.own) c, splice s.B (1024 * first s.own) Z1024⟩, (first s.own : Int), 0) else (s, 0, 2) : St × Int × Int).2.2 e w') := fun hj e w' he hw => by
      rw [if_neg (first_none _ hj)]
      subst hw
      exact ⟨he, hl, Chg.refl _ _⟩
    revert HF HN
    generalize (if first s.own < s.own.length then (⟨s.own.set (first s.own) c, splice s.B (1024 * first s.own) Z1024⟩, (first s.own : Int), 0) else (s, 0, 2) : St × Int × Int) = q
    intro HF HN
    have PB := Lib.hid (page_built c)
    have PO := Lib.hid (page_one c)
    have PS : Hid ((Try.prog.info? 153).map (·.size) = some (pageCells c Z1024).toArray.size) := by
      show _ = _
      rw [page_info, List.size_toArray, pageCells_length, Z1024_length]
    have PZ : Hid ((pageCells c Z1024).toArray.size = 1025) := by
      show _ = _
      rw [List.size_toArray, pageCells_length, Z1024_length]
    generalize (pageCells c Z1024).toArray = cs at HF PB PO PS PZ
    clear hl h
    generalize hn : s.own.length = n at k1 r HF HN
    have hn' := Lib.hid hn
    clear hn
    go_enter Try.func59, Try.ntmps59
    go_wp2
    go_loop [19] (fun i => ∃ k : Nat, k ≤ n ∧ i = .int .i64 k ∧ Hid (∀ j, j < k → 0 ≤ s.own.getD j 0)) (fun i => n - (intOf i).toNat)
    case atStart => exact ⟨0, Nat.zero_le _, rfl, fun j hj => by omega⟩
    case round =>
      obtain ⟨k, hk, rfl, J⟩ := hrel
      by_cases hlt : k < n
      · have hi : k < s.own.length := by rw [hn'.out]; exact hlt
        have p1 := H.out.row k hi
        have p2 := H.out.cls k hi
        have p3 := (H.out.ok.cls k hi).1
        by_cases h0 : s.own.getD k 0 < 0
        · have F := Lib.hid (HF.out k hlt h0 J.out)
          have p4 := Lib.hid (H.out.page k hi)
          have PL : Hid ((pageCells (s.own.getD k 0) (pg s.B k)).toArray.size = cs.size) := by
            show _ = _
            rw [PZ.out, List.size_toArray, pageCells_length, pg_length H.out.ok k hi]
          generalize (pageCells (s.own.getD k 0) (pg s.B k)).toArray = old at p4 PL
          have e1 : s.own.getD k 0 = -1 := by omega
          rw [e1] at p2
          generalize a.pb.getD k 0 = b at p1 p2 p4 F
          clear hi h0 e1 p3
          go_wp2_with (first | (refine wpList_build_one rfl 153 0 (.tmp 30) rfl _ rfl cs PB.out ?_) | (refine wpList_store_row rfl 153 (.tmp 32) (.tmp 31) rfl b cs rfl rfl 153 old p4.out PS.out PL.out PO.out ?_))
          go_ret2
          exact F.out _ _ rfl rfl
        · have w1 : (s.own.getD k 0 == -1) = false := by rw [beq_eq_false_iff_ne]; omega
          have J2 : Hid (∀ j, j < k + 1 → 0 ≤ s.own.getD j 0) := fun j hj => by
            rcases Nat.lt_or_ge j k with h' | h'
            · exact J.out j h'
            · obtain rfl : j = k := by omega
              omega
          generalize s.own.getD k 0 = c at p2 p3 w1
          generalize a.pb.getD k 0 = b at p1 p2
          clear hi h0
          go_wp2
          go_round
          case rel => exact ⟨k + 1, hlt, by go_num, J2⟩
          case measure => simp [intOf]; omega
      · obtain rfl : k = n := by omega
        have F := Lib.hid (HN.out J.out)
        clear HF HN
        go_wp2
        go_ret2
        exact F.out _ _ rfl rfl

end Go.Proofs.Ytolpjgpimholcaa.Arena
namespace Go.Proofs.Ytolpjgpimholcaa.Arena
open Go Go.RowKit Go.Proofs.Ytolpjgpimholcaa.Mem Go.Proofs.Ytolpjgpimholcaa.CodecPure Go.Proofs.Ytolpjgpimholcaa.ArenaPure Go.Proofs.Ytolpjgpimholcaa.Codec
set_option linter.unusedVariables false
set_option maxRecDepth 100000
variable {w w' : World} {a : Ar} {s : St}
/-! ### New -/
def ptr (b : Nat) : Value := .pointer (some ⟨b, 0, none⟩)
/-- pages made so far, and the header that leads to them -/
structure Made (w : World) (B g : Nat) (v : Value) (pb : List Nat) : Prop where
  head : w.heap[g]? = some (.cells #[v] 149 (0, 0))
  low : B ≤ g
  row : w.ownsRow B 150 1 v pb.length (pb.map ptr)
  page : ∀ i, i < pb.length → w.heap[pb.getD i 0]? = some (.cells (pageCells (-1) Z1024).toArray 153 (0, 0))
  inj : ∀ i j, i < pb.length → j < pb.length → pb.getD i 0 = pb.getD j 0 → i = j
  far : ∀ b, b ∈ pb → g < b
  rowfar : ∀ r, v.ownBlock = some r → r ≠ g ∧ r ∉ pb
theorem heap_alloc_at (w : World) (o : Obj) : (w.alloc o).heap[w.heap.size]? = some o := by
  show (w.heap.push o)[w.heap.size]? = some o
  rw [Array.getElem?_push_size]
theorem Made.start (w : World) : Made (w.alloc (.cells #[.slice none 0 0] 149)) w.heap.size w.heap.size (.slice none 0 0) [] where
  head := heap_alloc_at w _
  low := Nat.le_refl _
  row := World.ownsRow_nil _ _ _ 1
  page i hi := by simp at hi
  inj i j hi := by simp at hi
  far b hb := by simp at hb
  rowfar r h := by simp [Value.ownBlock] at h
theorem mem_getD (l : List Nat) (i : Nat) (h : i < l.length) : l.getD i 0 ∈ l := by
  rw [List.getD_eq_getElem?_getD, List.getElem?_eq_getElem h]; exact List.getElem_mem _
theorem getD_snoc (l : List Nat) (x i : Nat) : (l ++ [x]).getD i 0 = if i < l.length then l.getD i 0 else if i = l.length then x else 0 := by
  rw [List.getD_eq_getElem?_getD, List.getD_eq_getElem?_getD]
  by_cases h : i < l.length
  · rw [if_pos h, List.getElem?_append_left h]
  · rw [if_neg h, List.getElem?_append_right (by omega)]
    by_cases e : i = l.length
    · subst e; simp
    · rw [if_neg e, List.getElem?_eq_none (by simp; omega)]; rfl
/-- one page more: w1 is w with the page in a new block and what append wrote; w2 with the header turned -/
theorem Made.step {w w1 : World} {B g : Nat} {v v' : Value} {pb : List Nat} (h : Made w B g v pb) (hc : Chg (fun b => v.ownBlock = some b) w w1)
    (hp : w1.heap[w.heap.size]? = some (.cells (pageCells (-1) Z1024).toArray 153 (0, 0)))
    (hrow : w1.ownsRow B 150 1 v' (pb.length + 1) (pb.map ptr ++ [ptr w.heap.size]))
    (hat : v'.ownBlock = v.ownBlock ∨ ∃ r, v'.ownBlock = some r ∧ w.heap.size < r) :
    Made (w1.setCell ⟨g, 0, none⟩ v') B g v' (pb ++ [w.heap.size]) := by
  have hg : g < w.heap.size := blk_lt h.head
  have hpb : ∀ b, b ∈ pb → b < w.heap.size := fun b hb => by
    obtain ⟨i, hi, e⟩ := List.mem_iff_getElem.1 hb
    have := blk_lt (h.page i hi)
    rw [List.getD_eq_getElem?_getD, List.getElem?_eq_getElem hi] at this
    simp at this; omega
  have hr : ∀ r, v.ownBlock = some r → r < w.heap.size := fun r hr => (World.ownsRow.lt h.row r hr).2
  have hv' : ∀ r, v'.ownBlock = some r → r ≠ g ∧ r ∉ pb ∧ r ≠ w.heap.size := fun r e => by
    rcases hat with e' | ⟨r', e', hlt⟩
    · rw [e'] at e
      exact ⟨(h.rowfar r e).1, (h.rowfar r e).2, by have := hr r e; omega⟩
    · rw [e'] at e
      cases e
      exact ⟨by omega, fun hb => by have := hpb _ hb; omega, by omega⟩
  have hh1 : w1.heap[g]? = some (.cells #[v] 149 (0, 0)) := hc.keep h.head fun e => (h.rowfar g e).1 rfl
  have C2 : Chg (fun b => b = g) w1 (w1.setCell ⟨g, 0, none⟩ v') := Chg.setCell w1 ⟨g, 0, none⟩ v' rfl
  refine ⟨?_, h.low, ?_, ?_, ?_, ?_, ?_⟩
  · rw [setCell_row hh1, setRow_heap w1 _ _ _ _ (0, 0) hh1]; rfl
  · rw [List.map_append, List.length_append]
    refine ⟨hrow.1, ?_⟩
    rcases hrow.2 with h2 | ⟨r, cap, cur, e, hb, hh, rest⟩
    · exact .inl h2
    · exact .inr ⟨r, cap, cur, e, hb, C2.keep hh fun e' => (hv' r (by rw [e]; rfl)).1 e', rest⟩
  · intro i hi
    rw [List.length_append, List.length_singleton] at hi
    rw [getD_snoc]
    by_cases e : i < pb.length
    · rw [if_pos e]
      have hm := mem_getD pb i e
      exact C2.keep (hc.keep (h.page i e) fun e' => (h.rowfar _ e').2 hm) fun e' => by have := h.far _ hm; omega
    · rw [if_neg e, if_pos (by omega)]
      exact C2.keep hp (by omega)
  · intro i j hi hj
    rw [List.length_append, List.length_singleton] at hi hj
    rw [getD_snoc, getD_snoc]
    by_cases ei : i < pb.length <;> by_cases ej : j < pb.length
    · rw [if_pos ei, if_pos ej]; exact h.inj i j ei ej
    · rw [if_pos ei, if_neg ej, if_pos (by omega)]
      intro e; have := hpb _ (mem_getD pb i ei); omega
    · rw [if_neg ei, if_pos ej, if_pos (by omega)]
      intro e; have := hpb _ (mem_getD pb j ej); omega
    · intro _; omega
  · intro b hb
    rcases List.mem_append.1 hb with hb | hb
    · exact h.far b hb
    · simp at hb; omega
  · intro r e
    obtain ⟨h1, h2, h3⟩ := hv' r e
    exact ⟨h1, fun hb => by
      rcases List.mem_append.1 hb with hb | hb
      · exact h2 hb
      · simp at hb; exact h3 hb⟩
theorem owns_form {w : World} {B : Nat} {e : TypeId} {z : Nat} {v : Value} {n : Nat} {xs : List Value} (h : w.ownsRow B e z v n xs) : ∃ A c, v = .slice A n c := by
  rcases h.2 with ⟨rfl, rfl⟩ | ⟨g, cap, cur, rfl, _⟩
  · exact ⟨none, 0, rfl⟩
  · exact ⟨_, _, rfl⟩
theorem fresh2 (w : World) (o : Obj) (x : Value) (t : TypeId) : ∀ j u, [x][j]? = some u → ((w.alloc o).alloc (.cells #[x] t)).cell? ((⟨w.heap.size + 1, 0, none⟩ : Addr).add j) = some u := by
  intro j u hj
  have h0 : j = 0 := by
    rcases Nat.eq_zero_or_pos j with h | h
    · exact h
    · rw [List.getElem?_eq_none (by simp; omega)] at hj; cases hj
  subst h0
  have e : w.heap.size + 1 = (w.alloc o).heap.size := by simp
  rw [add_plain, Nat.add_zero, e, blk_cell (heap_alloc_at (w.alloc o) _)]
  exact hj
theorem Made.step2 {w w1 : World} {B g : Nat} {v v' : Value} {pb : List Nat} {x : Value} {t : TypeId} (h : Made w B g v pb)
    (hg : ((w.alloc (.cells (pageCells (-1) Z1024).toArray 153)).alloc (.cells #[x] t)).grownBy w1 v.ownBlock)
    (hrow : w1.ownsRow B 150 1 v' (pb.length + 1) (pb.map ptr ++ [ptr w.heap.size]))
    (hat : v'.ownBlock = v.ownBlock ∨ v'.ownBlock = some ((w.alloc (.cells (pageCells (-1) Z1024).toArray 153)).alloc (.cells #[x] t)).heap.size) :
    Made (w1.setCell ⟨g, 0, none⟩ v') B g v' (pb ++ [w.heap.size]) ∧ w1.cell? ⟨g, 0, none⟩ = some v ∧ w1.frozen? ⟨g, 0, none⟩ = false ∧ Chg (fun b => B ≤ b) w (w1.setCell ⟨g, 0, none⟩ v') := by
  have hgl := h.low
  have hc : Chg (fun b => v.ownBlock = some b) w w1 := ((Chg.alloc _ w _).trans (Chg.alloc _ _ _)).trans ⟨hg.os, hg.tape, hg.output, hg.size, fun b hb hs => hg.block b hb fun e => hs e.symm⟩
  have hh : w1.heap[g]? = some (.cells #[v] 149 (0, 0)) := hc.keep h.head fun e => (h.rowfar g e).1 rfl
  have hr : ∀ r, v.ownBlock = some r → B ≤ r ∧ r < w.heap.size := fun r hr => World.ownsRow.lt h.row r hr
  refine ⟨h.step hc ?_ hrow ?_, by rw [blk_cell hh]; rfl, blk_frozen hh 0, (hc.mono fun i _ hi => (hr i hi).1).trans (Chg.setCell w1 _ _ hgl)⟩
  · have z : ((w.alloc (.cells (pageCells (-1) Z1024).toArray 153)).alloc (.cells #[x] t)).heap[w.heap.size]? = some (.cells (pageCells (-1) Z1024).toArray 153 (0, 0)) := by
      rw [Below.heap_alloc _ _ _ (by simp)]
      exact heap_alloc_at w _
    rw [← z]
    refine hg.block _ (by simp; omega) fun e => ?_
    have := hr _ e.symm
    omega
  · rcases hat with e | e
    · exact .inl e
    · exact .inr ⟨_, e, by simp; omega⟩
theorem new_pg (n i : Nat) (h : i < n) : pg (new n).B i = Z1024 := by
  apply List.ext_getElem?
  intro j
  show ((List.drop (1024 * i) (List.replicate (1024 * n) (0 : Int))).take 1024)[j]? = (List.replicate 1024 (0 : Int))[j]?
  rw [List.drop_replicate, List.take_replicate]
  congr 2
  omega
theorem new_ok (n : Nat) (h1 : 1 ≤ n) (h2 : n ≤ 32) : Ok (new n) where
  low := by simp [new]; omega
  high := by simp [new]; omega
  len := by simp [new]
  bytes x hx := by rw [List.eq_of_mem_replicate hx]; decide
  cls i hi := by
    have hi' : i < n := by simpa [new] using hi
    show -1 ≤ (List.replicate n (-1 : Int)).getD i 0 ∧ (List.replicate n (-1 : Int)).getD i 0 < 8
    rw [List.getD_eq_getElem?_getD, List.getElem?_replicate, if_pos hi']
    decide
/-- all pages made: an arena of n pages -/
theorem Made.lies {w : World} {B g : Nat} {v : Value} {pb : List Nat} (h : Made w B g v pb) (n : Nat) (hn : pb.length = n) (h1 : 1 ≤ n) (h2 : n ≤ 32) :
    ∃ a : Ar, a.g = g ∧ Lies w a (new n) ∧ B ≤ a.g ∧ B ≤ a.ps ∧ (∀ b ∈ a.pb, B ≤ b) ∧ (∀ b ∈ a.pb, b < w.heap.size) ∧ a.ps < w.heap.size := by
  subst hn
  rcases h.row.2 with ⟨_, e⟩ | ⟨r, cap, cur, e, hb, hh, hle, hm, hs, ht⟩
  · omega
  · subst e
    have hl : (new pb.length).own.length = pb.length := by simp [new]
    have hf := h.rowfar r rfl
    have hps : ∀ b, b ∈ pb → b < w.heap.size := fun b hb => by
      obtain ⟨i, hi, e⟩ := List.mem_iff_getElem.1 hb
      have := blk_lt (h.page i hi)
      rw [List.getD_eq_getElem?_getD, List.getElem?_eq_getElem hi] at this
      simp at this; omega
    refine ⟨⟨g, r, cap, pb⟩, rfl, ⟨new_ok _ h1 h2, ?_, by rw [hl]; exact ⟨hle, hm⟩, by rw [hl], ?_, ?_, by rw [hl]; exact h.inj, ?_, fun e => hf.1 e.symm⟩, h.low, hb, fun b hb => Nat.le_of_lt (Nat.lt_of_le_of_lt h.low (h.far b hb)), hps, blk_lt hh⟩
    · rw [hl]; exact h.head
    · rw [hl]
      intro i hi
      show w.cell? ⟨r, i, none⟩ = _
      have hcur : cur.toList[i]? = some (ptr (pb.getD i 0)) := by
        have h3 : (cur.toList.take (pb.length * 1))[i]? = (pb.map ptr)[i]? := by rw [ht]
        rw [List.getElem?_take, if_pos (by omega)] at h3
        rw [h3, List.getElem?_map, List.getElem?_eq_getElem hi, List.getD_eq_getElem?_getD, List.getElem?_eq_getElem hi]; rfl
      rw [blk_cell hh, ← Array.getElem?_toList, hcur]; rfl
    · rw [hl]
      intro i hi
      have e1 : (new pb.length).own.getD i 0 = -1 := by
        show (List.replicate pb.length (-1 : Int)).getD i 0 = -1
        rw [List.getD_eq_getElem?_getD, List.getElem?_replicate, if_pos hi]; rfl
      rw [e1, new_pg _ _ hi]
      exact h.page i hi
    · rw [hl]
      intro i hi
      have hm := mem_getD pb i hi
      refine ⟨fun e => ?_, fun e => hf.2 ?_⟩
      · have e' : pb.getD i 0 = g := e
        have := h.far _ hm
        omega
      · have e' : pb.getD i 0 = r := e
        rw [← e']; exact hm
/-- an arena of the call's own, or the error -/
def NewA (w : World) (n : Int) (e : Ending) (w' : World) : Prop :=
  (n < 1 ∨ 32 < n) ∧ e = .returned (.tuple #[.pointer none, .int .i64 1]) ∧ w = w' ∨
  1 ≤ n ∧ n ≤ 32 ∧ ∃ a : Ar, e = .returned (.tuple #[.pointer (some ⟨a.g, 0, none⟩), .int .i64 0]) ∧ Lies w' a (new n.toNat) ∧ Chg (fun _ => False) w w' ∧ w.heap.size ≤ a.g ∧ w.heap.size ≤ a.ps ∧ (∀ b ∈ a.pb, w.heap.size ≤ b) ∧ (∀ b ∈ a.pb, b < w'.heap.size) ∧ a.ps < w'.heap.size
theorem ptr_info : (Try.prog.info? 150).map (fun i => (i.zero, i.size, i.bytes)) = some (some (.pointer none), 1, 8) := by kernel_rfl
set_option maxRecDepth 100000 in
theorem new_calls (n : Int) (w : World) : Calls Try.prog 57 #[(.int .i64 n)] w (NewA w n) := by
  by_cases h : n < 1 ∨ 32 < n
  · have R : Hid (∀ e w', e = Ending.returned (.tuple #[.pointer none, .int .i64 1]) → w = w' → NewA w n e w') := fun e w' he hw => .inl ⟨h, he, hw⟩
    rcases h with h | h
    · go_enter Try.func57, Try.ntmps57
      go_wp2
      go_ret2
      exact R.out _ _ rfl rfl
    · have h' : ¬ n < 1 := by omega
      go_enter Try.func57, Try.ntmps57
      go_wp2
      go_ret2
      exact R.out _ _ rfl rfl
  · have h1 : ¬ n < 1 := by omega
    have h2 : ¬ 32 < n := by omega
    obtain ⟨m, rfl⟩ := Int.eq_ofNat_of_zero_le (show 0 ≤ n by omega)
    have R : Hid (∀ e w' v pb, Made w' w.heap.size w.heap.size v pb → pb.length = m → Chg (fun b => w.heap.size ≤ b) w w' → e = Ending.returned (.tuple #[.pointer (some ⟨w.heap.size, 0, none⟩), .int .i64 0]) → NewA w m e w') := fun e w' v pb hM hl hc he => by
      refine .inr ⟨by omega, by omega, ?_⟩
      obtain ⟨a, e1, h3, h4, h5, h6, h7, h8⟩ := hM.lies m hl (by omega) (by omega)
      exact ⟨a, by rw [he, e1], by rw [Int.toNat_natCast]; exact h3, hc.mono fun i h1 h2 => by omega, h4, h5, h6, h7, h8⟩
    have PB := Lib.hid (page_built (-1))
    have PO := Lib.hid (page_one (-1))
    have M0 := Lib.hid (Made.start w)
    have C0 : Hid (Chg (fun b => w.heap.size ≤ b) w (w.alloc (.cells #[.slice none 0 0] 149))) := Chg.alloc _ _ _
    clear h
    go_enter Try.func57, Try.ntmps57
    go_wp2
    generalize w.alloc (.cells #[.slice none 0 0] 149) = w0 at M0 C0 ⊢
    go_loopw [14] (fun i wr => ∃ (k : Nat) (v : Value) (pb : List Nat), k ≤ m ∧ i = .int .i64 k ∧ Hid (pb.length = k) ∧ Hid (Made wr w.heap.size w.heap.size v pb) ∧ Hid (Chg (fun b => w.heap.size ≤ b) w wr)) (fun i _ => m - (intOf i).toNat)
    case atStart => exact ⟨0, _, [], Nat.zero_le _, rfl, rfl, M0.out, C0.out⟩
    case round =>
      obtain ⟨k, v, pb, hk, rfl, L, M, C⟩ := hrel
      by_cases hlt : k < m
      · have c1 : wr.cell? ⟨w.heap.size, 0, none⟩ = some v := by rw [blk_cell M.out.head]; rfl
        obtain ⟨i0, hi, hz0, hz1, hz2⟩ := info_parts ptr_info
        have IH := Lib.hid hi
        have Z0 := Lib.hid hz0
        have Z1 := Lib.hid hz1
        have Z2 := Lib.hid hz2
        clear hi hz0 hz1 hz2
        have OW : Hid (((wr.alloc (.cells (pageCells (-1) Z1024).toArray 153)).alloc (.cells #[.pointer (some ⟨wr.heap.size, 0, none⟩)] 150)).ownsRow w.heap.size 150 1 v k (pb.map ptr)) := by
          have := M.out.row
          rw [L.out] at this
          exact (this.alloc _).alloc _
        go_wp2_with (first | (refine wpList_build_one rfl 153 0 _ rfl _ rfl _ PB.out ?_) | (at_builtin; refine wpList_append_own_at _ rfl _ _ 147 rfl w.heap.size 150 i0 (.pointer none) 1 8 Try.underlying147 IH.out Z0.out Z1.out Z2.out rfl (by decide) v k (pb.map ptr) rfl OW.out ⟨wr.heap.size + 1, 0, none⟩ 1 1 [ptr wr.heap.size] rfl rfl ?c1 ?c2 ?c3 ?c4 ?c5 ?_; (case c1 => exact fresh2 _ _ _ _); (case c2 => simp [ptr, Value.oneCell']); (case c3 => unfold maxLen; omega); (case c4 => omega); (case c5 => have := C.out.size; simp; omega); intro v' w1 hown hgrow _ hat; obtain ⟨A', c', rfl⟩ := owns_form hown; have T1 := M.out.step2 hgrow (by rw [L.out]; exact hown) hat; have c2 := T1.2.1; have c3 := T1.2.2.1; have M1 := Lib.hid T1.1; have C1 : Hid (Chg (fun b => w.heap.size ≤ b) w (w1.setCell ⟨w.heap.size, 0, none⟩ (.slice A' (k + 1) c'))) := C.out.trans T1.2.2.2; clear hown hgrow hat T1))
        go_roundw
        case rel => exact ⟨k + 1, _, pb ++ [wr.heap.size], hlt, by go_num, by show _ = _; rw [List.length_append, L.out]; rfl, M1.out, C1.out⟩
        case measure => simp [intOf]; omega
      · obtain rfl : k = m := by omega
        go_wp2
        go_ret2
        exact R.out _ _ _ _ M.out L.out C.out rfl

end Go.Proofs.Ytolpjgpimholcaa.Arena
