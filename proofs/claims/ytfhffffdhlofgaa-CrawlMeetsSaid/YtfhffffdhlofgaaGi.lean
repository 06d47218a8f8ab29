import Derived.Test.YtfhffffdhlofgaaGd
import Derived.Test.YtfhffffdhlofgaaGh
import Derived.Test.YtfhffffdhlofgaaGe
/- Both arenas behind Laid: no item's fields lead anywhere: a queue may begin there. -/
namespace Go.Proofs.Ytfhffffdhlofgaa.Links
open Go Go.RowKit Go.Proofs.Ytfhffffdhlofgaa.Mem Go.Proofs.Ytfhffffdhlofgaa.CodecPure Go.Proofs.Ytfhffffdhlofgaa.ArenaPure Go.Proofs.Ytfhffffdhlofgaa.Codec Go.Proofs.Ytfhffffdhlofgaa.Arena Go.Proofs.Ytfhffffdhlofgaa.Item
set_option linter.unusedVariables false
set_option maxRecDepth 100000
theorem grant_ok {s : St} (hs : Ok s) (c : Int) : Ok (ArenaPure.grant s c).1 := by
  unfold ArenaPure.grant
  split
  · exact hs
  · split
    · rename_i h1 h2
      exact granted_ok hs (first s.own) c h2 (by omega)
    · exact hs
theorem granting_ok {s : St} (hs : Ok s) : ∀ k, Ok (granting s k)
  | 0 => hs
  | k + 1 => grant_ok (granting_ok hs k) 1
theorem madeS_ok4 : Ok (madeS 4) := granting_ok (new_ok 4 (by decide) (by decide)) 3
theorem laid_good {s : St} (hs : Ok s) (ho : s.own = [1, 1, 1, -1]) (n : Nat) (hn : n < 30) : ArenaPure.Good s (opsR (64 * (n : Int)) (bs (keyS n)) (bs V1)) :=
  (opsP_good (tc := 64) hs (laid_within ho n (by omega)) (by rw [bs_length, (keyS_bs n hn).2]; decide) (by decide) (by rw [bs_length, (keyS_bs n hn).2]; decide) (bs_bytes _) (bs_bytes _)).perm (ops_perm _ _ _)
theorem laidS_ok : ∀ n, n ≤ 30 → Ok (laidS n)
  | 0, _ => madeS_ok4
  | n + 1, h => (laid_good (laidS_ok n (by omega)) (laidS_own n) n (by omega)).lays
theorem place_got {s t : St} (hs : Ok s) (ht : Ok t) (ho : t.own = s.own) {x : Int} (h : ArenaPure.within s x 4) (e : got t x 4 = got s x 4) : place t x = place s x := by
  rw [place_eq hs h, place_eq ht ((within_own ho x 4).2 h), e]
theorem opsR_in {x : Int} {key val : List Int} (hk : key.length = 5) (hv : val.length = 1) : ∀ o ∈ opsR x key val, x ≤ o.1 ∧ o.1 + o.2.length ≤ x + 64 := by
  intro o ho
  simp only [opsR, List.mem_cons, List.not_mem_nil, or_false] at ho
  rcases ho with rfl | rfl | rfl | rfl | rfl | rfl | rfl | rfl | rfl | rfl | rfl | rfl | rfl | rfl <;> simp only [pb4_length, leb_length, hk, hv] <;> omega
theorem laid_clean : ∀ n, n ≤ 30 → ∀ k : Nat, k < 48 → (place (laidS n) (64 * (k : Int) + 4)).1 ≤ 0 ∧ (place (laidS n) (64 * (k : Int) + 8)).1 ≤ 0 := by
  intro n
  induction n with
  | zero => exact fun _ => made_clean
  | succ n ih =>
    intro hn k hk
    have hs := laidS_ok n (by omega)
    have ht := laidS_ok (n + 1) hn
    have G := laid_good hs (laidS_own n) n (by omega)
    have lk : (bs (keyS n)).length = 5 := by rw [bs_length, (keyS_bs n (by omega)).2]
    have lv : (bs V1).length = 1 := by decide
    have w64 := laid_within (laidS_own (n + 1)) k hk
    have w4 := within_part w64 4 4 (by decide) (by decide) (by decide) (by decide)
    have w8 := within_part w64 8 4 (by decide) (by decide) (by decide) (by decide)
    have R := opsR_in (x := 64 * (n : Int)) lk lv
    by_cases e : k = n
    · subst e
      have g4 : got (laidS (k + 1)) (64 * (k : Int) + 4) 4 = pb4 (-1) := by
        have := lays_in (s := laidS k) (l := (opsR (64 * (k : Int)) (bs (keyS k)) (bs V1)).take 1) (m := (opsR (64 * (k : Int)) (bs (keyS k)) (bs V1)).drop 2) (x := 64 * (k : Int) + 4) (X := pb4 (-1)) G (by
          intro o ho
          simp only [opsR, List.drop_succ_cons, List.drop_zero, List.mem_cons, List.not_mem_nil, or_false] at ho
          rcases ho with rfl | rfl | rfl | rfl | rfl | rfl | rfl | rfl | rfl | rfl | rfl | rfl <;> simp only [pb4_length, leb_length, lk, lv] <;> omega)
        exact this
      have g8 : got (laidS (k + 1)) (64 * (k : Int) + 8) 4 = pb4 (-1) := by
        have := lays_in (s := laidS k) (l := (opsR (64 * (k : Int)) (bs (keyS k)) (bs V1)).take 2) (m := (opsR (64 * (k : Int)) (bs (keyS k)) (bs V1)).drop 3) (x := 64 * (k : Int) + 8) (X := pb4 (-1)) G (by
          intro o ho
          simp only [opsR, List.drop_succ_cons, List.drop_zero, List.mem_cons, List.not_mem_nil, or_false] at ho
          rcases ho with rfl | rfl | rfl | rfl | rfl | rfl | rfl | rfl | rfl | rfl | rfl <;> simp only [pb4_length, leb_length, lk, lv] <;> omega)
        exact this
      rw [place_of_got ht w4 ⟨by decide, by decide⟩ g4, place_of_got ht w8 ⟨by decide, by decide⟩ g8]
      decide
    · obtain ⟨h1, h2⟩ := ih (by omega) k hk
      have ho : (laidS (n + 1)).own = (laidS n).own := by rw [laidS_own, laidS_own]
      have f : ∀ d : Int, 0 ≤ d → d ≤ 60 → got (laidS (n + 1)) (64 * (k : Int) + d) 4 = got (laidS n) (64 * (k : Int) + d) 4 := fun d d0 d1 =>
        lays_off G (by omega) (by decide) fun o hm => by have := R o hm; omega
      rw [place_got hs ht ho ((within_own ho _ _).1 w4) (f 4 (by decide) (by decide)), place_got hs ht ho ((within_own ho _ _).1 w8) (f 8 (by decide) (by decide))]
      exact ⟨h1, h2⟩
/-- a queue of its own, begun in an arena where no field leads anywhere -/
theorem QA.begin {w w1 : World} {a : Ar} {s : St} (T : Here w.heap.size w w1 a s) (ho : s.own = [1, 1, 1, -1]) (hcl : ∀ k : Nat, k < 48 → (place s (64 * (k : Int) + 4)).1 ≤ 0 ∧ (place s (64 * (k : Int) + 8)).1 ≤ 0) :
    Calls Try.prog 14 #[(.pointer (some ⟨a.g, 0, none⟩))] w1 fun e w' => ∃ h : Qh, e = .returned (.pointer (some ⟨h.q, 0, none⟩)) ∧ QA w.heap.size w w' a h s [] ∧ Chg (fun _ => False) w1 w' ∧ w1.heap.size ≤ h.q ∧ w1.heap.size ≤ h.m :=
  (qnew_calls T.lies).mono fun e w2 ⟨h, h1, h2, h3, h4, h5⟩ => by
    have z := T.chg.size
    refine ⟨h, h1, ⟨T.fresh h3, h2, ⟨by omega, by omega⟩, fun y hy => by simp at hy, ho, fun x hx hw _ => ?_⟩, h3, h4, h5⟩
    obtain ⟨x0, x1⟩ := (within_chunk ho hx).1 hw
    obtain ⟨k, rfl⟩ : ∃ k : Nat, x = 64 * (k : Int) := ⟨(x / 64).toNat, by omega⟩
    exact hcl k (by omega)
theorem QA.laid {w w1 : World} {a : Ar} {r : Ra} (T : Two w.heap.size w w1 a r (laidS 30) (laidS 30)) : Calls Try.prog 14 #[(.pointer (some ⟨a.g, 0, none⟩))] w1 fun e w' => ∃ h : Qh, e = .returned (.pointer (some ⟨h.q, 0, none⟩)) ∧ QA w.heap.size w w' a h (laidS 30) [] ∧ Chg (fun _ => False) w1 w' ∧ w1.heap.size ≤ h.q ∧ w1.heap.size ≤ h.m :=
  QA.begin T.here (laidS_own 30) (laid_clean 30 (by decide))
end Go.Proofs.Ytfhffffdhlofgaa.Links

/- The walks of chapter 14's functions: a walk along a queue. -/
namespace Go.Proofs.Ytfhffffdhlofgaa.Crawl
open Go Go.RowKit Go.Proofs.Ytfhffffdhlofgaa.Mem Go.Proofs.Ytfhffffdhlofgaa.CodecPure Go.Proofs.Ytfhffffdhlofgaa.ArenaPure Go.Proofs.Ytfhffffdhlofgaa.Codec Go.Proofs.Ytfhffffdhlofgaa.Arena Go.Proofs.Ytfhffffdhlofgaa.Item Go.Proofs.Ytfhffffdhlofgaa.Links
set_option linter.unusedVariables false
set_option maxRecDepth 100000
variable {B : Nat} {w0 w w' : World} {a : Ar} {h : Qh} {cb : Nat} {s : St} {L : List Int} {is : Bool} {mk : Int}
def qp (h : Qh) : Bool → Option Addr
  | true => some ⟨h.q, 0, none⟩
  | false => none
structure CA (B : Nat) (w0 w : World) (a : Ar) (h : Qh) (cb : Nat) (s : St) (L : List Int) (is : Bool) (mk : Int) : Prop where
  q : QA B w0 w a h s L
  head : w.heap[cb]? = some (.cells #[(.pointer (some ⟨a.g, 0, none⟩)), .pointer (qp h is), .int .i64 mk] 104 (0, 0))
  low : B ≤ cb
  sep : cb ≠ a.g ∧ cb ≠ a.ps ∧ cb ∉ a.pb ∧ cb ≠ h.q ∧ cb ≠ h.m
/-- the blocks that a walk writes -/
def C2 (a : Ar) (h : Qh) (cb : Nat) (x : Nat) : Prop := Q2 a h x ∨ x = cb
theorem CA.c0 (k : CA B w0 w a h cb s L is mk) : w.cell? ⟨cb, 0, none⟩ = some (.pointer (some ⟨a.g, 0, none⟩)) := by rw [blk_cell k.head]; rfl
theorem CA.c1 (k : CA B w0 w a h cb s L is mk) : w.cell? ⟨cb, 1, none⟩ = some (.pointer (qp h is)) := by rw [blk_cell k.head]; rfl
theorem CA.c2 (k : CA B w0 w a h cb s L is mk) : w.cell? ⟨cb, 2, none⟩ = some (.int .i64 mk) := by rw [blk_cell k.head]; rfl
theorem CA.noq2 (k : CA B w0 w a h cb s L is mk) : ¬ Q2 a h cb := fun e => by
  rcases e with e | e | e
  · exact k.sep.2.2.1 e
  · exact k.sep.2.2.2.1 e
  · exact k.sep.2.2.2.2 e
theorem CA.opQ {s' : St} {L' : List Int} (k : CA B w0 w a h cb s L is mk) (hq : QA B w0 w' a h s' L') (hc : Chg (Q2 a h) w w') : CA B w0 w' a h cb s' L' is mk :=
  ⟨hq, hc.keep k.head k.noq2, k.low, k.sep⟩
theorem CA.fresh (k : CA B w0 w a h cb s L is mk) (hc : Chg (fun _ => False) w w') : CA B w0 w' a h cb s L is mk := k.opQ (k.q.fresh hc) (hc.mono fun _ _ h => h.elim)
theorem CA.setQ (k : CA B w0 w a h cb s L is mk) (is' : Bool) : CA B w0 (w.setCell ⟨cb, 1, none⟩ (.pointer (qp h is'))) a h cb s L is' mk :=
  ⟨k.q.other (S := fun x => x = cb) (Chg.setCell _ _ _ rfl) fun y e => by subst e; exact ⟨k.low, k.sep⟩, by rw [setCell_row k.head, setRow_heap w _ _ _ _ (0, 0) k.head]; rfl, k.low, k.sep⟩
theorem CA.setM (k : CA B w0 w a h cb s L is mk) (mk' : Int) : CA B w0 (w.setCell ⟨cb, 2, none⟩ (.int .i64 mk')) a h cb s L is mk' :=
  ⟨k.q.other (S := fun x => x = cb) (Chg.setCell _ _ _ rfl) fun y e => by subst e; exact ⟨k.low, k.sep⟩, by rw [setCell_row k.head, setRow_heap w _ _ _ _ (0, 0) k.head]; rfl, k.low, k.sep⟩
theorem CA.setQC (k : CA B w0 w a h cb s L is mk) (is' : Bool) : Chg (C2 a h cb) w (w.setCell ⟨cb, 1, none⟩ (.pointer (qp h is'))) := Chg.setCell _ _ _ (.inr rfl)
/-- what an act answers, and what it leaves -/
def CNow (B : Nat) (w0 w : World) (a : Ar) (h : Qh) (cb : Nat) (s : St) (L : List Int) (is : Bool) (mk : Int) (v : Value) (e : Ending) (w' : World) : Prop :=
  e = .returned v ∧ CA B w0 w' a h cb s L is mk ∧ Chg (C2 a h cb) w w'
theorem cnew_calls (k : QA B w0 w a h s L) (hB : B ≤ w.heap.size) : Calls Try.prog 36 #[(.pointer (some ⟨a.g, 0, none⟩))] w fun e w' => ∃ cb, e = .returned (.pointer (some ⟨cb, 0, none⟩)) ∧ CA B w0 w' a h cb s L false 0 ∧ Chg (fun _ => False) w w' ∧ w.heap.size ≤ cb := by
  have bl := k.blocks
  have R : Hid (∀ e w', e = Ending.returned (.pointer (some ⟨w.heap.size, 0, none⟩)) → w' = w.alloc (.cells #[(.pointer (some ⟨a.g, 0, none⟩)), .pointer none, .int .i64 0] 104) → ∃ cb, e = .returned (.pointer (some ⟨cb, 0, none⟩)) ∧ CA B w0 w' a h cb s L false 0 ∧ Chg (fun _ => False) w w' ∧ w.heap.size ≤ cb) := fun e w' he hw => by
    subst hw
    exact ⟨w.heap.size, he, ⟨k.fresh (Chg.alloc _ _ _), heap_alloc_at w _, hB, ⟨by omega, by omega, fun hm => by have := bl.2.2.1 _ hm; omega, by omega, by omega⟩⟩, Chg.alloc _ _ _, Nat.le_refl _⟩
  clear bl k
  go_enter Try.func36, Try.ntmps36
  go_wp2
  go_ret
  exact R.out _ _ rfl rfl
theorem walks_calls (k : CA B w0 w a h cb s L is mk) : Calls Try.prog 41 #[(.pointer (some ⟨cb, 0, none⟩))] w fun e w' => e = .returned (.bool is) ∧ w' = w := by
  have c1 := k.c1
  cases is
  · have c1 : w.cell? ⟨cb, 1, none⟩ = some (.pointer none) := c1
    clear k
    go_enter Try.func41, Try.ntmps41
    go_wp2
    go_ret
    exact ⟨rfl, rfl⟩
  · have c1 : w.cell? ⟨cb, 1, none⟩ = some (.pointer (some ⟨h.q, 0, none⟩)) := c1
    clear k
    go_enter Try.func41, Try.ntmps41
    go_wp2
    go_ret
    exact ⟨rfl, rfl⟩
theorem stop_no (k : CA B w0 w a h cb s L false mk) : Calls Try.prog 40 #[(.pointer (some ⟨cb, 0, none⟩))] w fun e w' => e = .returned (.tuple #[.int .i64 0, .bool false]) ∧ w' = w := by
  have k := Lib.hid k
  go_enter Try.func40, Try.ntmps40
  go_wp2_with fail
  refine (walks_calls k.out).mono ?_
  rintro e w1 ⟨rfl, rfl⟩
  go_wp2_with fail
  go_ret2
  exact ⟨rfl, rfl⟩
theorem stop_yes (k : CA B w0 w a h cb s L true mk) : Calls Try.prog 40 #[(.pointer (some ⟨cb, 0, none⟩))] w (CNow B w0 w a h cb (removed s L mk).1 (removed s L mk).2.1 false mk (.tuple #[.int .i64 mk, .bool true])) := by
  have c1 : w.cell? ⟨cb, 1, none⟩ = some (.pointer (some ⟨h.q, 0, none⟩)) := k.c1
  have c2 := k.c2
  have k := Lib.hid k
  go_enter Try.func40, Try.ntmps40
  go_wp2_with fail
  refine (walks_calls k.out).mono ?_
  rintro e w1 ⟨rfl, rfl⟩
  go_wp2_with fail
  go_still_tail 8, (by kernel_rfl)
  change wpList _ _ _ _ _ w1.drew
  have k' := Lib.hid (k.out.fresh (Chg.drew _ _))
  have cd := Lib.hid (Chg.drew (C2 a h cb) w1)
  clear k c1 c2
  generalize w1.drew = w3 at k' cd ⊢
  go_wp2_with fail
  refine (k'.out.q.remove mk).mono ?_
  rintro e w2 ⟨rfl, hq, hc⟩
  have k2 := k'.out.opQ hq hc
  have hc := Lib.hid hc
  have d1 : w2.cell? ⟨cb, 1, none⟩ = some (.pointer (some ⟨h.q, 0, none⟩)) := k2.c1
  have d2 := k2.c2
  have z1 := blk_frozen k2.head 1
  have k3 := Lib.hid (k2.setQ false)
  have C := Lib.hid (k2.setQC false)
  clear k' hq k2
  go_wp2_with fail
  go_ret2
  exact ⟨rfl, k3.out, cd.out.trans ((hc.out.mono fun _ _ h => .inl h).trans C.out)⟩
theorem step_no (k : CA B w0 w a h cb s L false mk) : Calls Try.prog 39 #[(.pointer (some ⟨cb, 0, none⟩))] w fun e w' => e = .returned (.tuple #[.int .i64 0, .bool false]) ∧ w' = w := by
  have k := Lib.hid k
  go_enter Try.func39, Try.ntmps39
  go_wp2_with fail
  refine (walks_calls k.out).mono ?_
  rintro e w1 ⟨rfl, rfl⟩
  go_wp2_with fail
  go_ret2
  exact ⟨rfl, rfl⟩
/-- a step: at the walk's end -/
theorem step_end (k : CA B w0 w a h cb s L true mk) {z : Int} (hb : before L mk = (z, false)) : Calls Try.prog 39 #[(.pointer (some ⟨cb, 0, none⟩))] w (CNow B w0 w a h cb (removed s L mk).1 (removed s L mk).2.1 false mk (.tuple #[.int .i64 mk, .bool false])) := by
  have c1 : w.cell? ⟨cb, 1, none⟩ = some (.pointer (some ⟨h.q, 0, none⟩)) := k.c1
  have c2 := k.c2
  have k := Lib.hid k
  go_enter Try.func39, Try.ntmps39
  go_wp2_with fail
  refine (walks_calls k.out).mono ?_
  rintro e w1 ⟨rfl, rfl⟩
  go_wp2_with fail
  go_quiet (fail)
  have k' := Lib.hid (k.out.fresh (Chg.drewN _ w1 nq))
  have cd := Lib.hid (Chg.drewN (C2 a h cb) w1 nq)
  clear k c1 c2
  generalize w1.drewN nq = wd at k' cd ⊢
  go_wp2_with fail
  refine (k'.out.q.beforeE hb).mono ?_
  rintro e w2 ⟨rfl, hq, hc⟩
  have k2 := Lib.hid (k'.out.opQ hq (hc.mono fun _ _ h => h.elim))
  have C1 : Hid (Chg (C2 a h cb) w1 w2) := cd.out.trans (hc.mono fun _ _ h => h.elim)
  clear cd
  clear k' hq hc
  go_wp2_with fail
  refine (stop_yes k2.out).mono ?_
  rintro e w3 ⟨rfl, h1, h2⟩
  have k3 := Lib.hid h1
  have C3 := Lib.hid (C1.out.trans h2)
  clear h1 h2
  go_wp2_with fail
  go_ret2
  exact ⟨rfl, k3.out, C3.out⟩
/-- a step: one item further -/
theorem step_last (k : CA B w0 w a h cb s L true mk) {x z : Int} (hb : before L mk = (x, true)) (hb2 : before L x = (z, false)) (hm : Chunk mk) (hi : I64 mk) : Calls Try.prog 39 #[(.pointer (some ⟨cb, 0, none⟩))] w (CNow B w0 w a h cb (pushed (removed s L mk).1 (removed s L mk).2.1 mk).1 (pushed (removed s L mk).1 (removed s L mk).2.1 mk).2.1 true mk (.tuple #[.int .i64 x, .bool true])) := by
  have c1 : w.cell? ⟨cb, 1, none⟩ = some (.pointer (some ⟨h.q, 0, none⟩)) := k.c1
  have c2 := k.c2
  have k := Lib.hid k
  go_enter Try.func39, Try.ntmps39
  go_wp2_with fail
  refine (walks_calls k.out).mono ?_
  rintro e w1 ⟨rfl, rfl⟩
  go_wp2_with fail
  go_quiet (fail)
  have k' := Lib.hid (k.out.fresh (Chg.drewN _ w1 nq))
  have cd := Lib.hid (Chg.drewN (C2 a h cb) w1 nq)
  clear k c1 c2
  generalize w1.drewN nq = wd at k' cd ⊢
  go_wp2_with fail
  refine (k'.out.q.beforeE hb).mono ?_
  rintro e w2 ⟨rfl, hq, hc⟩
  have k2 := Lib.hid (k'.out.opQ hq (hc.mono fun _ _ h => h.elim))
  have C1 : Hid (Chg (C2 a h cb) w1 w2) := cd.out.trans (hc.mono fun _ _ h => h.elim)
  clear cd
  clear k' hq hc
  go_wp2_with fail
  refine (k2.out.q.beforeE hb2).mono ?_
  rintro e w3 ⟨rfl, hq, hc⟩
  have k3 := Lib.hid (k2.out.opQ hq (hc.mono fun _ _ h => h.elim))
  have C3 : Hid (Chg (C2 a h cb) w1 w3) := C1.out.trans (hc.mono fun _ _ h => h.elim)
  clear k2 hq hc C1
  go_wp2_with fail
  refine (k3.out.q.remove mk).mono ?_
  rintro e w4 ⟨rfl, hq, hc⟩
  have k4 := Lib.hid (k3.out.opQ hq hc)
  have C4 : Hid (Chg (C2 a h cb) w1 w4) := C3.out.trans (hc.mono fun _ _ h => .inl h)
  clear k3 hq hc C3
  go_wp2_with fail
  refine (k4.out.q.push hm hi).mono ?_
  rintro e w5 ⟨rfl, hq, hc⟩
  have k5 := Lib.hid (k4.out.opQ hq hc)
  have C5 : Hid (Chg (C2 a h cb) w1 w5) := C4.out.trans (hc.mono fun _ _ h => .inl h)
  clear k4 hq hc C4
  go_wp2_with fail
  go_ret2
  exact ⟨rfl, k5.out, C5.out⟩
theorem step_more (k : CA B w0 w a h cb s L true mk) {x y : Int} (hb : before L mk = (x, true)) (hb2 : before L x = (y, true)) (hm : Chunk mk) (hi : I64 mk) (hy : I64 y) : Calls Try.prog 39 #[(.pointer (some ⟨cb, 0, none⟩))] w (CNow B w0 w a h cb (inserted (removed s L mk).1 (removed s L mk).2.1 y mk).1 (inserted (removed s L mk).1 (removed s L mk).2.1 y mk).2.1 true mk (.tuple #[.int .i64 x, .bool true])) := by
  have c1 : w.cell? ⟨cb, 1, none⟩ = some (.pointer (some ⟨h.q, 0, none⟩)) := k.c1
  have c2 := k.c2
  have k := Lib.hid k
  go_enter Try.func39, Try.ntmps39
  go_wp2_with fail
  refine (walks_calls k.out).mono ?_
  rintro e w1 ⟨rfl, rfl⟩
  go_wp2_with fail
  go_quiet (fail)
  have k' := Lib.hid (k.out.fresh (Chg.drewN _ w1 nq))
  have cd := Lib.hid (Chg.drewN (C2 a h cb) w1 nq)
  clear k c1 c2
  generalize w1.drewN nq = wd at k' cd ⊢
  go_wp2_with fail
  refine (k'.out.q.beforeE hb).mono ?_
  rintro e w2 ⟨rfl, hq, hc⟩
  have k2 := Lib.hid (k'.out.opQ hq (hc.mono fun _ _ h => h.elim))
  have C1 : Hid (Chg (C2 a h cb) w1 w2) := cd.out.trans (hc.mono fun _ _ h => h.elim)
  clear cd
  clear k' hq hc
  go_wp2_with fail
  refine (k2.out.q.beforeE hb2).mono ?_
  rintro e w3 ⟨rfl, hq, hc⟩
  have k3 := Lib.hid (k2.out.opQ hq (hc.mono fun _ _ h => h.elim))
  have C3 : Hid (Chg (C2 a h cb) w1 w3) := C1.out.trans (hc.mono fun _ _ h => h.elim)
  clear k2 hq hc C1
  go_wp2_with fail
  refine (k3.out.q.remove mk).mono ?_
  rintro e w4 ⟨rfl, hq, hc⟩
  have k4 := Lib.hid (k3.out.opQ hq hc)
  have C4 : Hid (Chg (C2 a h cb) w1 w4) := C3.out.trans (hc.mono fun _ _ h => .inl h)
  clear k3 hq hc C3
  go_wp2_with fail
  refine (k4.out.q.insert hm hy hi).mono ?_
  rintro e w5 ⟨rfl, hq, hc⟩
  have k5 := Lib.hid (k4.out.opQ hq hc)
  have C5 : Hid (Chg (C2 a h cb) w1 w5) := C4.out.trans (hc.mono fun _ _ h => .inl h)
  clear k4 hq hc C4
  go_wp2_with fail
  go_ret2
  exact ⟨rfl, k5.out, C5.out⟩
end Go.Proofs.Ytfhffffdhlofgaa.Crawl

/- The walk of chapter 14's Start. -/
namespace Go.Proofs.Ytfhffffdhlofgaa.Crawl
open Go Go.RowKit Go.Proofs.Ytfhffffdhlofgaa.Mem Go.Proofs.Ytfhffffdhlofgaa.CodecPure Go.Proofs.Ytfhffffdhlofgaa.ArenaPure Go.Proofs.Ytfhffffdhlofgaa.Codec Go.Proofs.Ytfhffffdhlofgaa.Arena Go.Proofs.Ytfhffffdhlofgaa.Item Go.Proofs.Ytfhffffdhlofgaa.Links
set_option linter.unusedVariables false
set_option maxRecDepth 100000
variable {B : Nat} {w0 w w' : World} {a : Ar} {h : Qh} {cb : Nat} {s : St} {L : List Int} {is : Bool} {mk : Int}
/-- a mark's key is none -/
def keyed (s : St) (x : Int) : St := (itemSet s x 8 0).1
theorem keyed_lay (hs : Ok s) {x : Int} (hw : within s x 40) : itemSet s x 8 0 = (keyed s x, 0) ∧ Lay s (keyed s x) (fun i => (i : Int) = x + 34) := by
  have e := itemSet_lay (f := 8) (v := 0) hs hw (by decide) (by decide) (by decide) (by unfold Fits; rw [if_neg (by decide)]; decide)
  have l := fb_length (f := 8) 0 (by decide) (by decide)
  have e2 : keyed s x = lay s (x + 34) (fb 8 0) := by unfold keyed; rw [e]; rfl
  have l1 : (fb 8 0).length = 1 := by decide
  have hf := hdr_f hw (f := 8) (by decide) (by decide)
  have hr := in_row hs (n := 1) (at_ := x + 34) hf
  have x0 := hw.2.1
  refine ⟨by rw [e]; unfold keyed; rw [e], ?_⟩
  rw [e2]
  refine ⟨lay_ok hs (by rw [l1]; omega) (fb_bytes _ _), rfl, fun i hi => ?_⟩
  show (splice s.B (x + 34).toNat (fb 8 0))[i]? = _
  rw [splice_get _ _ _ (by rw [l1]; omega), if_neg (by rw [l1]; omega)]
theorem QA.layAt {t : St} {S : Nat → Prop} (k : QA B w0 w a h s L) (hl : Lies w' a t) (hc : Chg (· ∈ a.pb) w w') (hL : Lay s t S) (hS : ∀ x : Int, x % 64 = 0 → 0 ≤ x → ∀ i : Nat, x + 4 ≤ i → (i : Int) < x + 12 → ¬ S i) : QA B w0 w' a h t L := by
  have p0 : ∀ x ∈ L, 0 ≤ x := fun x hx => (k.q.li.hdr x hx).2.1
  refine ⟨k.here.now hl hc, ⟨hl, ⟨hL.ok, fun x hx => hL.hdr (k.q.li.hdr x hx), k.q.li.apart, seg_frame hL L _ _ p0 (fun x hx i hi => hS x (k.mult x hx) (p0 x hx) i hi.1 hi.2) k.q.li.seg⟩, hc.keep k.q.head k.q.out.q.2.2, k.q.set.chg hc k.q.out.m.2.2, k.q.out⟩, k.low, k.mult, hL.own.trans k.own, fun x hx hw hm => ?_⟩
  have hw' := (hL.within x 40).1 hw
  have x0 := hw'.2.1
  rw [hL.place (x + 4) (by omega) fun i h1 h2 => hS x hx x0 i h1 (by omega), hL.place (x + 8) (by omega) fun i h1 h2 => hS x hx x0 i (by omega) (by omega)]
  exact k.clean x hx hw' hm
theorem QA.keyed (k : QA B w0 w a h s L) {x : Int} (hx : Chunk x) (hw : within s x 40) (hi : I64 x) : Calls Try.prog 53 #[(.pointer (some ⟨a.g, 0, none⟩)), (.int .i64 x), (.int .i64 8), (.int .i64 0)] w fun e w' => e = .returned (.int .i64 0) ∧ QA B w0 w' a h (Crawl.keyed s x) L ∧ Chg (Q2 a h) w w' :=
  (set_calls k.here.lies x 8 0 hi (by decide)).mono fun e w1 ⟨h1, h2, h3⟩ => by
    obtain ⟨e1, e2⟩ := keyed_lay k.here.lies.ok hw
    rw [e1] at h1 h2
    have x64 := ((hx.within k.own).1 hw).1
    exact ⟨h1, QA.layAt k h2 h3 e2 fun y hy y0 i i1 i2 e => by omega, h3.mono fun _ _ h => .inl h⟩
theorem start_walks (k : CA B w0 w a h cb s L true mk) (x : Int) : Calls Try.prog 38 #[(.pointer (some ⟨cb, 0, none⟩)), (.pointer (some ⟨h.q, 0, none⟩)), (.int .i64 x)] w fun e w' => e = .returned (.int .i64 5) ∧ w' = w := by
  have k := Lib.hid k
  go_enter Try.func38, Try.ntmps38
  go_wp2_with fail
  refine (walks_calls k.out).mono ?_
  rintro e w1 ⟨rfl, rfl⟩
  go_wp2_with fail
  go_ret
  exact ⟨rfl, rfl⟩
def startErr (s : St) (L : List Int) (x : Int) : Int := if within s x 40 then if x ∈ L then 4 else if L = [] then 3 else 0 else 1
theorem aread_calls (k : QA B w0 w a h s L) (x : Int) (hi : I64 x) : Calls Try.prog 69 #[(.pointer (some ⟨a.g, 0, none⟩)), (.int .i64 x), (.int .i64 40)] w fun e w' => ∃ A n c, e = .returned (.tuple #[.slice A n c, .int .i64 (if within s x 40 then 0 else 1)]) ∧ Chg (fun _ => False) w w' :=
  (read_calls k.here.lies x 40 hi).mono fun e w1 ⟨A, c, h1, h2, h3⟩ => ⟨A, (readA s x 40).1.length, c, by
    have : (readA s x 40).2 = if within s x 40 then 0 else 1 := by unfold readA; split <;> rfl
    rw [h1, this], h3⟩
theorem start_range (k : CA B w0 w a h cb s L false mk) (x : Int) (hi : I64 x) (hw : ¬ within s x 40) : Calls Try.prog 38 #[(.pointer (some ⟨cb, 0, none⟩)), (.pointer (some ⟨h.q, 0, none⟩)), (.int .i64 x)] w fun e w' => e = .returned (.int .i64 1) ∧ Chg (fun _ => False) w w' := by
  have c0 := k.c0
  have k := Lib.hid k
  have RD := Lib.hid (fun W (q : QA B w0 W a h s L) => aread_calls q x hi)
  rw [if_neg hw] at RD
  clear hw
  go_enter Try.func38, Try.ntmps38
  go_wp2_with fail
  refine (walks_calls k.out).mono ?_
  rintro e w1 ⟨rfl, rfl⟩
  go_wp2_with fail
  refine (RD.out _ k.out.q).mono ?_
  rintro e w2 ⟨A, n, c, rfl, hc⟩
  have hc := Lib.hid hc
  go_wp2_with fail
  go_ret
  exact ⟨rfl, hc.out⟩
theorem start_twice (k : CA B w0 w a h cb s L false mk) (x : Int) (hi : I64 x) (hw : within s x 40) (hm : x ∈ L) : Calls Try.prog 38 #[(.pointer (some ⟨cb, 0, none⟩)), (.pointer (some ⟨h.q, 0, none⟩)), (.int .i64 x)] w fun e w' => e = .returned (.int .i64 4) ∧ Chg (fun _ => False) w w' := by
  have c0 := k.c0
  have k := Lib.hid k
  have RD := Lib.hid (fun W (q : QA B w0 W a h s L) => aread_calls q x hi)
  rw [if_pos hw] at RD
  have hd : decide (x ∈ L) = true := decide_eq_true hm
  obtain ⟨t, ok, ht⟩ : ∃ t ok, tail L = (t, ok) := ⟨_, _, rfl⟩
  have hd := Lib.hid hd
  have ht := Lib.hid ht
  clear hw hm
  go_enter Try.func38, Try.ntmps38
  go_wp2_with fail
  refine (walks_calls k.out).mono ?_
  rintro e w1 ⟨rfl, rfl⟩
  go_wp2_with fail
  refine (RD.out _ k.out.q).mono ?_
  rintro e w2 ⟨A, n, c, rfl, hc⟩
  have k2 := Lib.hid (k.out.fresh hc)
  have hc := Lib.hid hc
  clear k c0
  go_wp2_with fail
  refine (k2.out.q.tailE ht.out).mono ?_
  rintro e w3 ⟨rfl, rfl⟩
  go_wp2_with fail
  refine (k2.out.q.hasE x hd.out).mono ?_
  rintro e w3 ⟨rfl, rfl⟩
  go_wp2_with fail
  go_ret
  exact ⟨rfl, hc.out⟩
theorem start_none (k : CA B w0 w a h cb s [] false mk) (x : Int) (hi : I64 x) (hw : within s x 40) : Calls Try.prog 38 #[(.pointer (some ⟨cb, 0, none⟩)), (.pointer (some ⟨h.q, 0, none⟩)), (.int .i64 x)] w fun e w' => e = .returned (.int .i64 3) ∧ Chg (fun _ => False) w w' := by
  have c0 := k.c0
  have k := Lib.hid k
  have RD := Lib.hid (fun W (q : QA B w0 W a h s []) => aread_calls q x hi)
  rw [if_pos hw] at RD
  have hd : Hid (decide (x ∈ ([] : List Int)) = false) := rfl
  obtain ⟨t, ht⟩ : ∃ t, tail ([] : List Int) = (t, false) := ⟨_, rfl⟩
  have ht := Lib.hid ht
  clear hw
  go_enter Try.func38, Try.ntmps38
  go_wp2_with fail
  refine (walks_calls k.out).mono ?_
  rintro e w1 ⟨rfl, rfl⟩
  go_wp2_with fail
  refine (RD.out _ k.out.q).mono ?_
  rintro e w2 ⟨A, n, c, rfl, hc⟩
  have k2 := Lib.hid (k.out.fresh hc)
  have hc := Lib.hid hc
  clear k c0
  go_wp2_with fail
  refine (k2.out.q.tailE ht.out).mono ?_
  rintro e w3 ⟨rfl, rfl⟩
  go_wp2_with fail
  refine (k2.out.q.hasE x hd.out).mono ?_
  rintro e w3 ⟨rfl, rfl⟩
  go_wp2_with fail
  go_ret
  exact ⟨rfl, hc.out⟩
theorem start_ok (k : CA B w0 w a h cb s L false mk) (x : Int) (hx : Chunk x) (hi : I64 x) (hw : within s x 40) (hm : x ∉ L) {t : Int} (ht : tail L = (t, true)) (hti : I64 t) :
    Calls Try.prog 38 #[(.pointer (some ⟨cb, 0, none⟩)), (.pointer (some ⟨h.q, 0, none⟩)), (.int .i64 x)] w (CNow B w0 w a h cb (inserted (keyed s x) L t x).1 (inserted (keyed s x) L t x).2.1 true x (.int .i64 0)) := by
  have c0 := k.c0
  have k := Lib.hid k
  have RD := Lib.hid (fun W (q : QA B w0 W a h s L) => aread_calls q x hi)
  rw [if_pos hw] at RD
  have hd : decide (x ∈ L) = false := decide_eq_false hm
  have hd := Lib.hid hd
  have ht := Lib.hid ht
  have hw := Lib.hid hw
  clear hm
  go_enter Try.func38, Try.ntmps38
  go_wp2_with fail
  refine (walks_calls k.out).mono ?_
  rintro e w1 ⟨rfl, rfl⟩
  go_wp2_with fail
  refine (RD.out _ k.out.q).mono ?_
  rintro e w2 ⟨A, n, c, rfl, hc⟩
  have k2 := Lib.hid (k.out.fresh hc)
  have C2' : Hid (Chg (C2 a h cb) w1 w2) := hc.mono fun _ _ h => h.elim
  clear k c0 hc RD
  go_wp2_with fail
  refine (k2.out.q.tailE ht.out).mono ?_
  rintro e w3 ⟨rfl, rfl⟩
  go_wp2_with fail
  refine (k2.out.q.hasE x hd.out).mono ?_
  rintro e w3 ⟨rfl, rfl⟩
  have c0 := k2.out.c0
  go_wp2_with fail
  refine (QA.keyed k2.out.q hx hw.out hi).mono ?_
  rintro e w4 ⟨rfl, hq, hc⟩
  have k4 := Lib.hid (k2.out.opQ hq hc)
  have C4 : Hid (Chg (C2 a h cb) w1 w4) := C2'.out.trans (hc.mono fun _ _ h => .inl h)
  clear k2 c0 hq hc C2' hw hd ht
  go_wp2_with fail
  refine (k4.out.q.insert hx hti hi).mono ?_
  rintro e w5 ⟨rfl, hq, hc⟩
  have k5 := k4.out.opQ hq hc
  have C5 : Hid (Chg (C2 a h cb) w1 w5) := C4.out.trans (hc.mono fun _ _ h => .inl h)
  clear k4 hq hc C4
  have k6 := Lib.hid ((k5.setQ true).setM x)
  have d1 : w5.cell? ⟨cb, 1, none⟩ = some (.pointer none) := k5.c1
  have d2 := k5.c2
  have z1 := blk_frozen k5.head 1
  have z2 := blk_frozen k5.head 2
  have C6 := Lib.hid ((k5.setQC true).trans (Chg.setCell (S := C2 a h cb) _ ⟨cb, 2, none⟩ (.int .i64 x) (.inr rfl)))
  clear k5
  go_wp2_with fail
  go_ret
  exact ⟨rfl, k6.out, C5.out.trans C6.out⟩
end Go.Proofs.Ytfhffffdhlofgaa.Crawl

/- What a walk's acts answer, over lists alone. -/
namespace Go.Proofs.Ytfhffffdhlofgaa.Crawl
open Go Go.RowKit Go.Proofs.Ytfhffffdhlofgaa.Mem Go.Proofs.Ytfhffffdhlofgaa.CodecPure Go.Proofs.Ytfhffffdhlofgaa.ArenaPure Go.Proofs.Ytfhffffdhlofgaa.Codec Go.Proofs.Ytfhffffdhlofgaa.Arena Go.Proofs.Ytfhffffdhlofgaa.Item Go.Proofs.Ytfhffffdhlofgaa.Links
set_option linter.unusedVariables false
set_option maxRecDepth 100000
variable {B : Nat} {w0 w w' : World} {a : Ar} {h : Qh} {cb : Nat} {s : St} {L : List Int} {is : Bool} {mk : Int}
/-! ### lists -/
theorem prevL_at {b : Int} : ∀ {A C : List Int} (p : Int), b ∉ A → prevL b p (A ++ b :: C) = A.getLastD p
  | [], C, p, _ => by show (if b = b then p else _) = p; rw [if_pos rfl]
  | y :: A, C, p, h => by
    have h1 : y ≠ b := fun e => h (by simp [e])
    show (if y = b then p else prevL b y (A ++ b :: C)) = _
    rw [if_neg h1, prevL_at y fun e => h (by simp [e])]
    cases A <;> rfl
theorem ins_at' {b x : Int} : ∀ {A C : List Int}, b ∉ A → ins b x (A ++ b :: C) = A ++ b :: x :: C
  | [], C, _ => by show (if b = b then _ else _) = _; rw [if_pos rfl]; rfl
  | y :: A, C, h => by
    have h1 : y ≠ b := fun e => h (by simp [e])
    show (if y = b then _ else y :: ins b x (A ++ b :: C)) = _
    rw [if_neg h1, ins_at' fun e => h (by simp [e])]; rfl
theorem erase_at {b : Int} {A C : List Int} (h : b ∉ A) : (A ++ b :: C).erase b = A ++ C := by
  rw [List.erase_append_right _ h, List.erase_cons_head]
theorem before_two {A C : List Int} {x b : Int} (hn : (A ++ x :: b :: C).Nodup) : before (A ++ x :: b :: C) b = (x, true) := by
  rw [List.nodup_append] at hn
  obtain ⟨h1, h2, h3⟩ := hn
  have hb : b ∉ A := fun hb => h3 b hb b (by simp) rfl
  have hxb : x ≠ b := fun e => by subst e; simp at h2
  unfold before
  have e : A ++ x :: b :: C = (A ++ [x]) ++ b :: C := by simp
  rw [if_pos ⟨by simp, by cases A with
    | nil => exact fun e => hxb e.symm
    | cons y A => exact fun e => hb (by rw [e]; simp)⟩, e, prevL_at _ (by simp; exact ⟨hb, fun e => hxb e.symm⟩)]
  simp
theorem before_head (b : Int) (C : List Int) : before (b :: C) b = (0, false) := by
  unfold before
  rw [if_neg fun h => h.2 rfl]
theorem remL_at {A C : List Int} {x : Int} (h : x ∉ A) : remL (A ++ x :: C) x = (A ++ C, 0) := by
  unfold remL
  rw [if_pos (by simp), erase_at h]
/-- a chunk that a queue may take in -/
def In64 (x : Int) : Prop := x % 64 = 0 ∧ 0 ≤ x ∧ x < 3072
instance (x : Int) : Decidable (In64 x) := by unfold In64; infer_instance
theorem In64.chunk {x : Int} (h : In64 x) : Chunk x := .inl h.1
theorem In64.i64 {x : Int} (h : In64 x) : I64 x := by unfold In64 at h; unfold I64; omega
theorem pushL_in {L : List Int} {x : Int} (h : In64 x) (hm : x ∉ L) : pushL L x = (x :: L, 0) := by unfold pushL; rw [if_pos (show x % 64 = 0 ∧ 0 ≤ x ∧ x < 3072 from h), if_neg hm]
theorem insL_at {A C : List Int} {b x : Int} (h : In64 x) (hm : x ∉ A ++ b :: C) (hb : b ∉ A) : insL (A ++ b :: C) b x = (A ++ b :: x :: C, 0) := by
  unfold insL
  rw [if_pos (by simp), if_pos (show x % 64 = 0 ∧ 0 ≤ x ∧ x < 3072 from h), if_neg hm, ins_at' hb]
/-! ### states -/
theorem removed_own (hl : LI s L) (x : Int) : (removed s L x).1.own = s.own := by
  unfold removed
  split
  · rename_i hm
    obtain ⟨A, C, hL, hA, h4, h5, h6, h7⟩ := split_at x L hm
    subst hL
    obtain ⟨P1, P2, P3, P4⟩ := del_seg hl
    rw [← h5, ← h6] at P2
    exact P2.own
  · rfl
theorem pushed_L (ho : s.own = [1, 1, 1, -1]) {x : Int} (hx : Chunk x) : (pushed s L x).2 = pushL L x := by
  unfold pushed pushL
  have e := hx.within ho
  by_cases hw : within s x 40
  · rw [if_pos hw, if_pos (e.1 hw)]; split <;> rfl
  · rw [if_neg hw, if_neg fun h => hw (e.2 h)]
theorem inserted_L (ho : s.own = [1, 1, 1, -1]) {b x : Int} (hx : Chunk x) : (inserted s L b x).2 = insL L b x := by
  unfold inserted insL insTail
  have e := hx.within ho
  by_cases hb : b ∈ L
  · rw [if_pos hb, if_pos hb]
    by_cases hw : within s x 40
    · rw [if_pos hw, if_pos (e.1 hw)]; split <;> rfl
    · rw [if_neg hw, if_neg fun h => hw (e.2 h)]
  · rw [if_neg hb, if_neg hb]
theorem keyed_own (s : St) (x : Int) (hs : Ok s) (hw : within s x 40) : (keyed s x).own = s.own := (keyed_lay hs hw).2.own
/-! ### acts -/
/-- what an act of the walk answers -/
def CEnd (B : Nat) (w0 w : World) (a : Ar) (h : Qh) (cb : Nat) (L : List Int) (is : Bool) (mk : Int) (v : Value) (e : Ending) (w' : World) : Prop :=
  e = .returned v ∧ ∃ s, CA B w0 w' a h cb s L is mk ∧ Chg (C2 a h cb) w w'
theorem CA.nodup (k : CA B w0 w a h cb s L is mk) : L.Nodup := k.q.q.li.nodup
theorem CA.item {y : Int} (k : CA B w0 w a h cb s L is mk) (hy : y ∈ L) : I64 y := by
  have := k.q.q.li.pl hy
  obtain ⟨⟨h1, h2⟩, h3⟩ := this
  unfold I64; omega
theorem CA.pushE (k : CA B w0 w a h cb s L is mk) {x err : Int} {L' : List Int} (hp : pushL L x = (L', err)) (hx : Chunk x) (hi : I64 x) : Calls Try.prog 16 #[(.pointer (some ⟨h.q, 0, none⟩)), (.int .i64 x)] w (CEnd B w0 w a h cb L' is mk (.int .i64 err)) :=
  (k.q.pushE hp hx hi).mono fun e w1 ⟨h1, s', h2, h3⟩ => ⟨h1, s', k.opQ h2 h3, h3.mono fun _ _ h => .inl h⟩
theorem CA.removeE (k : CA B w0 w a h cb s L is mk) {x err : Int} {L' : List Int} (hp : remL L x = (L', err)) : Calls Try.prog 15 #[(.pointer (some ⟨h.q, 0, none⟩)), (.int .i64 x)] w (CEnd B w0 w a h cb L' is mk (.int .i64 err)) :=
  (k.q.removeE hp).mono fun e w1 ⟨h1, s', h2, h3⟩ => ⟨h1, s', k.opQ h2 h3, h3.mono fun _ _ h => .inl h⟩
theorem CA.listE (k : CA B w0 w a h cb s L is mk) {n : Nat} (hn : L.length = n) (hlen : n ≤ 1000000) : Calls Try.prog 19 #[(.pointer (some ⟨h.q, 0, none⟩))] w fun e w' => ∃ A c, e = .returned (.slice A n c) ∧ Mem.Own w' w.heap.size 3 .i64 (.slice A n c) L ∧ CA B w0 w' a h cb s L is mk ∧ Chg (fun _ => False) w w' :=
  (k.q.listE hn hlen).mono fun e w1 ⟨A, c, h1, h2, h3, h4⟩ => ⟨A, c, h1, h2, k.fresh h4, h4⟩
theorem CA.stopE {A C : List Int} (k : CA B w0 w a h cb s (A ++ mk :: C) true mk) : Calls Try.prog 40 #[(.pointer (some ⟨cb, 0, none⟩))] w (CEnd B w0 w a h cb (A ++ C) false mk (.tuple #[.int .i64 mk, .bool true])) :=
  (stop_yes k).mono fun e w1 ⟨h1, h2, h3⟩ => by
    have hn := k.nodup
    have hb : mk ∉ A := fun hb => (List.nodup_append.1 hn).2.2 mk hb mk (by simp) rfl
    have e2 := removed_L s (A ++ mk :: C) mk
    rw [remL_at hb] at e2
    rw [e2] at h2
    exact ⟨h1, _, h2, h3⟩
theorem CA.stepEnd {C : List Int} (k : CA B w0 w a h cb s (mk :: C) true mk) : Calls Try.prog 39 #[(.pointer (some ⟨cb, 0, none⟩))] w (CEnd B w0 w a h cb C false mk (.tuple #[.int .i64 mk, .bool false])) :=
  (step_end k (before_head mk C)).mono fun e w1 ⟨h1, h2, h3⟩ => by
    have e2 := removed_L s (mk :: C) mk
    rw [show remL (mk :: C) mk = (C, 0) from remL_at (A := []) (by simp)] at e2
    rw [e2] at h2
    exact ⟨h1, _, h2, h3⟩
theorem CA.stepE {A C : List Int} {x : Int} (k : CA B w0 w a h cb s (A ++ x :: mk :: C) true mk) (hmk : In64 mk) : Calls Try.prog 39 #[(.pointer (some ⟨cb, 0, none⟩))] w (CEnd B w0 w a h cb (A ++ mk :: x :: C) true mk (.tuple #[.int .i64 x, .bool true])) := by
  have hn := k.nodup
  have hb := before_two hn
  have e0 : A ++ x :: mk :: C = (A ++ [x]) ++ mk :: C := by simp
  have hm : mk ∉ A ++ [x] := fun hm => by
    rw [e0] at hn
    exact (List.nodup_append.1 hn).2.2 mk hm mk (by simp) rfl
  have e2 := removed_L s (A ++ x :: mk :: C) mk
  have e3 : remL (A ++ x :: mk :: C) mk = (A ++ x :: C, 0) := by rw [e0, remL_at hm]; simp
  rw [e3] at e2
  have ho := (removed_own k.q.q.li mk).trans k.q.own
  rcases List.eq_nil_or_concat A with rfl | ⟨A', y, rfl⟩
  · refine (step_last k hb (before_head x _) hmk.chunk hmk.i64).mono fun e w1 ⟨h1, h2, h3⟩ => ?_
    have e4 := pushed_L (L := (removed s ([] ++ x :: mk :: C) mk).2.1) ho hmk.chunk
    rw [e2] at e4 h2
    have e5 : pushL ([] ++ x :: C) mk = (mk :: x :: C, 0) := pushL_in hmk fun hm => by
      have : (x :: mk :: C).Nodup := hn
      simp at this hm
      rcases hm with rfl | hm
      · exact this.1.1 rfl
      · exact this.2.1 hm
    rw [e5] at e4
    rw [e4] at h2
    exact ⟨h1, _, h2, h3⟩
  · rw [List.concat_eq_append] at *
    have e6 : A' ++ [y] ++ x :: mk :: C = A' ++ y :: x :: (mk :: C) := by simp
    have hb2 : before (A' ++ [y] ++ x :: mk :: C) x = (y, true) := by
      rw [e6]
      exact before_two (by rw [← e6]; exact hn)
    refine (step_more k hb hb2 hmk.chunk hmk.i64 (k.item (by simp))).mono fun e w1 ⟨h1, h2, h3⟩ => ?_
    have e4 := inserted_L (b := y) (L := (removed s (A' ++ [y] ++ x :: mk :: C) mk).2.1) ho hmk.chunk
    rw [e2] at e4 h2
    have hy : y ∉ A' := fun hy => by
      rw [e6] at hn
      exact (List.nodup_append.1 hn).2.2 y hy y (by simp) rfl
    have e5 : insL (A' ++ [y] ++ x :: C) y mk = (A' ++ y :: mk :: x :: C, 0) := by
      have e7 : A' ++ [y] ++ x :: C = A' ++ y :: x :: C := by simp
      rw [e7]
      refine insL_at hmk (fun hm2 => ?_) hy
      have hd : (A' ++ [y] ++ [x]) ++ mk :: C = A' ++ [y] ++ x :: mk :: C := by simp
      rw [← hd] at hn
      obtain ⟨n1, n2, n3⟩ := List.nodup_append.1 hn
      simp at hm2
      rcases hm2 with hm2 | hm2 | hm2 | hm2
      · exact hm (by simp [hm2])
      · exact hm (by simp [hm2])
      · exact hm (by simp [hm2])
      · exact (List.nodup_cons.1 n2).1 hm2
    rw [e5] at e4
    rw [e4] at h2
    rw [show A' ++ y :: mk :: x :: C = A' ++ [y] ++ mk :: x :: C by simp] at h2
    exact ⟨h1, _, h2, h3⟩
theorem CA.startE {A : List Int} {t x mk0 : Int} (k : CA B w0 w a h cb s (A ++ [t]) false mk0) (hx : In64 x) (hm : x ∉ A ++ [t]) : Calls Try.prog 38 #[(.pointer (some ⟨cb, 0, none⟩)), (.pointer (some ⟨h.q, 0, none⟩)), (.int .i64 x)] w (CEnd B w0 w a h cb (A ++ [t, x]) true x (.int .i64 0)) := by
  have hw : within s x 40 := (hx.chunk.within k.q.own).2 hx
  have ht : tail (A ++ [t]) = (t, true) := by unfold tail; rw [if_neg (by simp)]; simp
  refine (start_ok k x hx.chunk hx.i64 hw hm ht (k.item (by simp))).mono fun e w1 ⟨h1, h2, h3⟩ => ?_
  have hn := k.nodup
  have e4 := inserted_L (b := t) (L := A ++ [t]) ((keyed_own s x k.q.here.lies.ok hw).trans k.q.own) hx.chunk
  rw [insL_at (A := A) (C := []) hx hm fun hy => (List.nodup_append.1 hn).2.2 t hy t (by simp) rfl] at e4
  rw [e4] at h2
  exact ⟨h1, _, h2, h3⟩
end Go.Proofs.Ytfhffffdhlofgaa.Crawl

/- The walk of chapter 14's works. -/
namespace Go.Proofs.Ytfhffffdhlofgaa.Crawl
open Go Go.RowKit Go.Proofs.Ytfhffffdhlofgaa.Mem Go.Proofs.Ytfhffffdhlofgaa.CodecPure Go.Proofs.Ytfhffffdhlofgaa.ArenaPure Go.Proofs.Ytfhffffdhlofgaa.Codec Go.Proofs.Ytfhffffdhlofgaa.Arena Go.Proofs.Ytfhffffdhlofgaa.Item Go.Proofs.Ytfhffffdhlofgaa.Links
set_option linter.unusedVariables false
set_option maxRecDepth 100000
variable {B : Nat} {w0 w w' : World} {a : Ar} {h : Qh} {cb : Nat} {s : St} {L : List Int} {is : Bool} {mk : Int}
theorem CA.startTwo (k : CA B w0 w a h cb s L true mk) (x : Int) : Calls Try.prog 38 #[(.pointer (some ⟨cb, 0, none⟩)), (.pointer (some ⟨h.q, 0, none⟩)), (.int .i64 x)] w (CEnd B w0 w a h cb L true mk (.int .i64 5)) :=
  (start_walks k x).mono fun e w1 ⟨h1, h2⟩ => ⟨h1, s, h2 ▸ k, h2 ▸ Chg.refl _ _⟩
theorem CA.startNone (k : CA B w0 w a h cb s [] false mk) {x : Int} (hx : In64 x) : Calls Try.prog 38 #[(.pointer (some ⟨cb, 0, none⟩)), (.pointer (some ⟨h.q, 0, none⟩)), (.int .i64 x)] w (CEnd B w0 w a h cb [] false mk (.int .i64 3)) :=
  (start_none k x hx.i64 ((hx.chunk.within k.q.own).2 hx)).mono fun e w1 ⟨h1, h2⟩ => ⟨h1, s, k.fresh h2, h2.mono fun _ _ h => h.elim⟩
theorem CA.off (k : CA B w0 w a h cb s L is mk) {W : World} {A : Option Addr} {n c : Nat} {l : List Int} {e : TypeId} (ho : Mem.Own W w.heap.size e .i64 (.slice A n c) l) : ∀ ad, A = some ad → ¬ C2 a h cb ad.block := fun ad e hq => by
  rcases hq with hq | hq
  · exact k.q.off ho ad e hq
  · have := (ho.base ad e).1
    have := blk_lt k.head
    omega
/-- the beginning of each law -/
theorem CA.begin {w1 : World} {r : Ra} (T : Two w.heap.size w w1 a r (laidS 30) (laidS 30)) : Calls Try.prog 14 #[(.pointer (some ⟨a.g, 0, none⟩))] w1 fun e w2 => ∃ h : Qh, e = .returned (.pointer (some ⟨h.q, 0, none⟩)) ∧ Chg (fun _ => False) w1 w2 ∧ QA w.heap.size w w2 a h (laidS 30) [] ∧ w1.heap.size ≤ h.q ∧ w1.heap.size ≤ h.m :=
  (QA.laid T).mono fun e w2 ⟨h, h1, h2, h3, h4, h5⟩ => ⟨h, h1, h3, h2, h4, h5⟩
theorem CA.new {w2 : World} (q : QA w.heap.size w w2 a h s L) : Calls Try.prog 36 #[(.pointer (some ⟨a.g, 0, none⟩))] w2 fun e w' => ∃ cb, e = .returned (.pointer (some ⟨cb, 0, none⟩)) ∧ CA w.heap.size w w' a h cb s L false 0 ∧ Chg (fun _ => False) w2 w' ∧ w2.heap.size ≤ cb :=
  cnew_calls q q.here.chg.size
set_option maxHeartbeats 4000000 in
theorem works_calls (w : World) : Calls Try.prog 34 #[] w fun e w' => e = .returned (.bool true) ∧ Chg (fun _ => False) w w' := by
  go_enter Try.func34, Try.ntmps34
  go_wp2_with fail
  refine (laid_calls w).mono ?_
  rintro e w1 ⟨a, r, rfl, T⟩
  replace T := Lib.hid T
  go_wp2_with fail
  refine (CA.begin T.out).mono ?_
  rintro e w2 ⟨h, rfl, -, Q2, -, -⟩
  replace Q2 := Lib.hid Q2
  clear T
  go_wp2_with fail
  refine (CA.new Q2.out).mono ?_
  rintro e w3 ⟨cb, rfl, H0, -, -⟩
  replace H0 := Lib.hid H0
  clear Q2
  have dK0 := H0.out.startNone (x := 2048) (by decide)
  have dK1 := Lib.hid dK0
  clear dK0
  go_wp2_with fail
  refine dK1.out.mono ?_
  rintro e w4 ⟨rfl, s1, hnew, -⟩
  have H1 := Lib.hid hnew
  clear hnew dK1
  have dK0 := H1.out.pushE (x := 0) (L' := [0]) (err := 0) (by decide) (by decide) (by decide)
  have dK1 := Lib.hid dK0
  clear dK0
  go_wp2_with fail
  refine dK1.out.mono ?_
  rintro e w5 ⟨rfl, s2, hnew, -⟩
  have H2 := Lib.hid hnew
  clear hnew dK1
  have dK0 := H2.out.pushE (x := 64) (L' := [64, 0]) (err := 0) (by decide) (by decide) (by decide)
  have dK1 := Lib.hid dK0
  clear dK0
  go_wp2_with fail
  refine dK1.out.mono ?_
  rintro e w6 ⟨rfl, s3, hnew, -⟩
  have H3 := Lib.hid hnew
  clear hnew dK1
  have dK0 := H3.out.pushE (x := 128) (L' := [128, 64, 0]) (err := 0) (by decide) (by decide) (by decide)
  have dK1 := Lib.hid dK0
  clear dK0
  go_wp2_with fail
  refine dK1.out.mono ?_
  rintro e w7 ⟨rfl, s4, hnew, -⟩
  have H4 := Lib.hid hnew
  clear hnew dK1
  have dK0 := CA.startE (A := [128, 64]) (t := 0) (x := 2048) H4.out (by decide) (by decide)
  have dK1 := Lib.hid dK0
  clear dK0
  go_wp2_with fail
  refine dK1.out.mono ?_
  rintro e w8 ⟨rfl, s5, hnew, -⟩
  have H5 := Lib.hid hnew
  clear hnew dK1
  have dK0 := H5.out.startTwo 2112
  have dK1 := Lib.hid dK0
  clear dK0
  go_wp2_with fail
  refine dK1.out.mono ?_
  rintro e w9 ⟨rfl, s6, hnew, -⟩
  have H6 := Lib.hid hnew
  clear hnew dK1
  have dK0 := CA.stepE (A := [128, 64]) (x := 0) (C := []) H6.out (by decide)
  have dK1 := Lib.hid dK0
  clear dK0
  go_wp2_with fail
  refine dK1.out.mono ?_
  rintro e w10 ⟨rfl, s7, hnew, -⟩
  have H7 := Lib.hid hnew
  clear hnew dK1
  go_wp2_with fail
  refine (H7.out.listE (n := 4) rfl (by decide)).mono ?_
  rintro e w11 ⟨A, c, rfl, O7, H8, -⟩
  replace H8 := Lib.hid H8
  replace O7 := Lib.hid O7
  have NB := Lib.hid (H7.out.off O7.out)
  have SA := Lib.hid O7.out.sl
  clear O7 H7
  have dK0 := CA.stepE (A := [128]) (x := 64) (C := [0]) H8.out (by decide)
  have dK1 := Lib.hid dK0
  clear dK0
  go_wp2_with fail
  refine dK1.out.mono ?_
  rintro e w12 ⟨rfl, s9, hnew, hc⟩
  have H9 := Lib.hid hnew
  clear hnew dK1
  have SB := Lib.hid (SA.out.chg hc NB.out)
  clear hc SA
  have dK0 := CA.stepE (A := []) (x := 128) (C := [64, 0]) H9.out (by decide)
  have dK1 := Lib.hid dK0
  clear dK0
  go_wp2_with fail
  refine dK1.out.mono ?_
  rintro e w13 ⟨rfl, s10, hnew, hc⟩
  have H10 := Lib.hid hnew
  clear hnew dK1
  have SC := Lib.hid (SB.out.chg hc NB.out)
  clear hc SB
  have dK0 := CA.stepEnd (C := [128, 64, 0]) H10.out
  have dK1 := Lib.hid dK0
  clear dK0
  go_wp2_with fail
  refine dK1.out.mono ?_
  rintro e w14 ⟨rfl, s11, hnew, hc⟩
  have H11 := Lib.hid hnew
  clear hnew dK1
  have SD := Lib.hid (SC.out.chg hc NB.out)
  clear hc SC
  have hs9 := sl_lit w14 .i64 [128, 64, 2048, 0] 3 (0, 0)
  have C9 := same06_calls (c := c) (d := 4) (SD.out.chg (Chg.alloc (fun _ => False) w14 (.cells #[.int .i64 128, .int .i64 64, .int .i64 2048, .int .i64 0] 3)) (fun _ _ => id)) hs9 (by decide)
  replace C9 := Lib.hid C9
  clear hs9
  go_wp2_with fail
  refine C9.out.mono ?_
  rintro e w15 ⟨rfl, hd⟩
  have H12 := Lib.hid (H11.out.fresh ((Chg.alloc (fun _ => False) w14 _).trans (hd.chg _)))
  clear hd C9 SD H11
  go_wp2_with fail
  refine (Crawl.walks_calls H12.out).mono ?_
  rintro e w16 ⟨rfl, rfl⟩
  go_wp2_with fail
  refine (H12.out.listE (n := 3) rfl (by decide)).mono ?_
  rintro e w17 ⟨A2, c2, rfl, O11, H13, -⟩
  replace H13 := Lib.hid H13
  have C11 := same06_calls (c := c2) (d := 3) (O11.sl.chg (Chg.alloc (fun _ => False) w17 (.cells #[.int .i64 128, .int .i64 64, .int .i64 0] 3)) (fun _ _ => id)) (sl_lit w17 .i64 [128, 64, 0] 3 (0, 0)) (by decide)
  replace C11 := Lib.hid C11
  clear O11
  go_wp2_with fail
  refine C11.out.mono ?_
  rintro e w18 ⟨rfl, hd⟩
  have H14 := Lib.hid (H13.out.fresh ((Chg.alloc (fun _ => False) w17 _).trans (hd.chg _)))
  clear hd C11
  go_wp2_with fail
  go_ret
  exact ⟨rfl, H14.out.q.here.chg.mono fun _ hl hb => by omega⟩
end Go.Proofs.Ytfhffffdhlofgaa.Crawl

