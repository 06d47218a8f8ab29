import Derived.Test.YtfhffffdhlofgaaGi
import Derived.Deep.RegionHeld3
/- The walks of the reference of chapter 14. -/
namespace Go.Proofs.Ytfhffffdhlofgaa.Crawl
open Go Go.RowKit Go.Proofs.Ytfhffffdhlofgaa.Mem Go.Proofs.Ytfhffffdhlofgaa.CodecPure Go.Proofs.Ytfhffffdhlofgaa.ArenaPure Go.Proofs.Ytfhffffdhlofgaa.Codec Go.Proofs.Ytfhffffdhlofgaa.Arena Go.Proofs.Ytfhffffdhlofgaa.Item Go.Proofs.Ytfhffffdhlofgaa.Links
set_option linter.unusedVariables false
set_option maxRecDepth 100000
variable {C : Nat} {w w' : World} {r : Ra} {p d : Nat} {s : St} {L : List Int} {is : Bool} {mk : Int}
/-- the reference's walk d along its queue p -/
structure RC (C : Nat) (w : World) (r : Ra) (p d : Nat) (s : St) (L : List Int) (is : Bool) (mk : Int) : Prop where
  q : RQ C w r p s L
  li : LI s L
  head : ∃ qv, (is = true → qv = (.pointer (some ⟨p, 0, none⟩))) ∧ w.heap[d]? = some (.cells #[(.pointer (some ⟨r.g, 0, none⟩)), .bool is, qv, .int .i64 mk] 63 (0, 0))
  lo : d < C
  sep : d ≠ r.g ∧ d ≠ r.o ∧ d ≠ r.b ∧ d ≠ p
/-- the blocks that it writes -/
def RB (r : Ra) (p d : Nat) (x : Nat) : Prop := (r.has x ∨ x = p) ∨ x = d
theorem RC.nor (k : RC C w r p d s L is mk) : ¬ (r.has d ∨ d = p) := fun e => by
  rcases e with (e | e) | e
  · exact k.sep.2.1 e
  · exact k.sep.2.2.1 e
  · exact k.sep.2.2.2 e
theorem RC.opQ {s' : St} {L' : List Int} (k : RC C w r p d s L is mk) (hq : RQ C w' r p s' L') (hl : LI s' L') (hc : Chg (fun y => r.has y ∨ y = p) w w') : RC C w' r p d s' L' is mk := by
  obtain ⟨qv, h1, h2⟩ := k.head
  exact ⟨hq, hl, ⟨qv, h1, hc.keep h2 k.nor⟩, k.lo, k.sep⟩
theorem RC.fresh (k : RC C w r p d s L is mk) (hc : Chg (fun _ => False) w w') : RC C w' r p d s L is mk := k.opQ (k.q.fresh hc) k.li (hc.mono fun _ _ h => h.elim)
theorem RC.c0 (k : RC C w r p d s L is mk) : w.cell? ⟨d, 0, none⟩ = some (.pointer (some ⟨r.g, 0, none⟩)) := by obtain ⟨qv, _, h⟩ := k.head; rw [blk_cell h]; rfl
theorem RC.c1 (k : RC C w r p d s L is mk) : w.cell? ⟨d, 1, none⟩ = some (.bool is) := by obtain ⟨qv, _, h⟩ := k.head; rw [blk_cell h]; rfl
theorem RC.c2 (k : RC C w r p d s L true mk) : w.cell? ⟨d, 2, none⟩ = some (.pointer (some ⟨p, 0, none⟩)) := by obtain ⟨qv, e, h⟩ := k.head; rw [blk_cell h, e rfl]; rfl
theorem RC.c3 (k : RC C w r p d s L is mk) : w.cell? ⟨d, 3, none⟩ = some (.int .i64 mk) := by obtain ⟨qv, _, h⟩ := k.head; rw [blk_cell h]; rfl
theorem RC.other (k : RC C w r p d s L is mk) {v : Value} {i : Nat} : RQ C (w.setCell ⟨d, i, none⟩ v) r p s L :=
  k.q.chg (S := fun x => x = d) (Chg.setCell _ _ _ rfl) fun x e => by subst e; exact ⟨k.lo, k.sep⟩
theorem RC.setIs (k : RC C w r p d s L is mk) (b : Bool) (hb : b = true → is = true) : RC C (w.setCell ⟨d, 1, none⟩ (.bool b)) r p d s L b mk := by
  obtain ⟨qv, e, h⟩ := k.head
  exact ⟨k.other, k.li, ⟨qv, fun x => e (hb x), by rw [setCell_row h, setRow_heap w _ _ _ _ (0, 0) h]; rfl⟩, k.lo, k.sep⟩
/-! ### what the queue's acts leave -/
theorem removed_li (hl : LI s L) (x : Int) : LI (removed s L x).1 (removed s L x).2.1 := by
  unfold removed
  by_cases hm : x ∈ L
  · rw [if_pos hm]
    obtain ⟨A, D, hL, hA, h4, h5, h6, h7⟩ := split_at x L hm
    subst hL
    have P1 := (del_seg hl).1
    rw [← h5, ← h6] at P1
    rw [h7]
    exact P1
  · rw [if_neg hm]; exact hl
/-- what an act of the reference's walk answers -/
def RNowC (C : Nat) (w : World) (r : Ra) (p d : Nat) (s : St) (L : List Int) (is : Bool) (mk : Int) (v : Value) (e : Ending) (w' : World) : Prop :=
  e = .returned v ∧ RC C w' r p d s L is mk ∧ Chg (RB r p d) w w'
theorem RC.remove (k : RC C w r p d s L is mk) {x : Int} (hi : I64 x) : Calls Try.prog 28 #[(.pointer (some ⟨p, 0, none⟩)), (.int .i64 x)] w (RNowC C w r p d (removed s L x).1 (removed s L x).2.1 is mk (.int .i64 (removed s L x).2.2)) :=
  (rremove_calls k.q x hi).mono fun e w1 ⟨h1, h2, h3⟩ => by
    rw [rremoved_eq k.li] at h1 h2
    exact ⟨h1, k.opQ h2 (removed_li k.li x) h3, h3.mono fun _ _ h => .inl h⟩
theorem RC.before (k : RC C w r p d s L is mk) (hnd : L.Nodup) {x z : Int} {b : Bool} (hb : Links.before L x = (z, b)) : Calls Try.prog 31 #[(.pointer (some ⟨p, 0, none⟩)), (.int .i64 x)] w fun e w' => e = .returned (.tuple #[.int .i64 z, .bool b]) ∧ Chg (fun _ => False) w w' := by
  have := rbefore_calls k.q hnd x
  rw [hb] at this
  exact this
theorem rstop_no (k : RC C w r p d s L false mk) : Calls Try.prog 45 #[(.pointer (some ⟨d, 0, none⟩))] w fun e w' => e = .returned (.tuple #[.int .i64 0, .bool false]) ∧ w' = w := by
  have c1 := k.c1
  clear k
  go_enter Try.func45, Try.ntmps45
  go_wp2_with fail
  go_ret2
  exact ⟨rfl, rfl⟩
theorem rstop_yes (k : RC C w r p d s L true mk) (hi : I64 mk) : Calls Try.prog 45 #[(.pointer (some ⟨d, 0, none⟩))] w (RNowC C w r p d (removed s L mk).1 (removed s L mk).2.1 false mk (.tuple #[.int .i64 mk, .bool true])) := by
  have c1 := k.c1
  have c2 := k.c2
  have c3 := k.c3
  have k := Lib.hid k
  go_enter Try.func45, Try.ntmps45
  go_wp2_with fail
  go_still_tail 8, (by kernel_rfl)
  change wpList _ _ _ _ _ w.drew
  have k' := Lib.hid (k.out.fresh (Chg.drew _ _))
  have cd := Lib.hid (Chg.drew (RB r p d) w)
  clear k c1 c2 c3
  generalize w.drew = w3 at k' cd ⊢
  go_wp2_with fail
  refine (k'.out.remove hi).mono ?_
  rintro e w2 ⟨rfl, k2, hc⟩
  have hc := Lib.hid hc
  have d1 := k2.c1
  have d3 := k2.c3
  have z1 : w2.frozen? ⟨d, 1, none⟩ = false := by obtain ⟨_, _, h⟩ := k2.head; exact blk_frozen h 1
  have k3 := Lib.hid (k2.setIs false fun e => by cases e)
  have C3 : Hid (Chg (RB r p d) w2 (w2.setCell ⟨d, 1, none⟩ (.bool false))) := Chg.setCell _ _ _ (.inr rfl)
  clear k' k2
  go_wp2_with fail
  go_ret2
  exact ⟨rfl, k3.out, cd.out.trans (hc.out.trans C3.out)⟩
theorem rstep_no (k : RC C w r p d s L false mk) : Calls Try.prog 44 #[(.pointer (some ⟨d, 0, none⟩))] w fun e w' => e = .returned (.tuple #[.int .i64 0, .bool false]) ∧ w' = w := by
  have c1 := k.c1
  clear k
  go_enter Try.func44, Try.ntmps44
  go_wp2_with fail
  go_ret2
  exact ⟨rfl, rfl⟩
theorem rstep_end (k : RC C w r p d s L true mk) (hnd : L.Nodup) (hi : I64 mk) {z : Int} (hb : before L mk = (z, false)) : Calls Try.prog 44 #[(.pointer (some ⟨d, 0, none⟩))] w (RNowC C w r p d (removed s L mk).1 (removed s L mk).2.1 false mk (.tuple #[.int .i64 mk, .bool false])) := by
  have c1 := k.c1
  have c2 := k.c2
  have c3 := k.c3
  have k := Lib.hid k
  go_enter Try.func44, Try.ntmps44
  go_wp2_with fail
  have BF := Lib.hid ((k.out.fresh (Chg.drew _ _)).before hnd hb)
  go_region_held3 (fun w' => w'.cell? ⟨d, 2, none⟩ = some (.pointer (some ⟨p, 0, none⟩)) ∧ w'.cell? ⟨d, 3, none⟩ = some (.int .i64 mk)) (go_keep)
    (first
      | (go_at_call 31; refine BF.out.mono ?_; rintro e w4 ⟨rfl, hc⟩; have C0 := Lib.hid ((Chg.drew (fun _ => False) w).trans hc); have g2 := C0.out.cell c2 id; have g3 := C0.out.cell c3 id; clear hc; skip))
  have k4 := Lib.hid (k.out.fresh C0.out)
  have C4 : Hid (Chg (RB r p d) w w4) := C0.out.mono fun _ _ h => h.elim
  clear k C0 BF c1 c2 c3 g2 g3
  go_wp2_with fail
  refine (rstop_yes k4.out hi).mono ?_
  rintro e w5 ⟨rfl, k5, hc⟩
  have d3 := k5.c3
  have k5 := Lib.hid k5
  have C5 := Lib.hid (C4.out.trans hc)
  clear k4 C4 hc
  go_wp2_with fail
  go_ret2
  exact ⟨rfl, k5.out, C5.out⟩
end Go.Proofs.Ytfhffffdhlofgaa.Crawl

/- The walks of the reference of chapter 14, going on: Step. -/
namespace Go.Proofs.Ytfhffffdhlofgaa.Crawl
open Go Go.RowKit Go.Proofs.Ytfhffffdhlofgaa.Mem Go.Proofs.Ytfhffffdhlofgaa.CodecPure Go.Proofs.Ytfhffffdhlofgaa.ArenaPure Go.Proofs.Ytfhffffdhlofgaa.Codec Go.Proofs.Ytfhffffdhlofgaa.Arena Go.Proofs.Ytfhffffdhlofgaa.Item Go.Proofs.Ytfhffffdhlofgaa.Links
set_option linter.unusedVariables false
set_option maxRecDepth 100000
variable {C : Nat} {w w' : World} {r : Ra} {p d : Nat} {s : St} {L : List Int} {is : Bool} {mk : Int}
theorem pushed_li (hl : LI s L) {x : Int} (hap : within s x 40 → x ∉ L → ∀ y ∈ L, ArenaPure.Apart y x) : LI (pushed s L x).1 (pushed s L x).2.1 := by
  unfold pushed
  by_cases hw : within s x 40
  · rw [if_pos hw]
    by_cases hm : x ∈ L
    · rw [if_pos hm]; exact hl
    · rw [if_neg hm]; exact (put_seg (A := []) (C := L) hl hw (hap hw hm)).1
  · rw [if_neg hw]; exact hl
theorem inserted_li (hl : LI s L) {b x : Int} (hap : within s x 40 → x ∉ L → ∀ y ∈ L, ArenaPure.Apart y x) : LI (inserted s L b x).1 (inserted s L b x).2.1 := by
  unfold inserted
  by_cases hb : b ∈ L
  · rw [if_pos hb]
    unfold insTail
    by_cases hw : within s x 40
    · rw [if_pos hw]
      by_cases hm : x ∈ L
      · rw [if_pos hm]; exact hl
      · rw [if_neg hm]
        obtain ⟨A, D, hL, hA, h4, h5, h6, h7⟩ := split_at b L hb
        have e0 : L = (A ++ [b]) ++ D := by rw [hL]; simp
        have kli := hl
        rw [e0] at kli
        have P := (put_seg kli hw (by rw [← e0]; exact hap hw hm)).1
        have el : (A ++ [b]).getLastD (-1) = b := by simp
        rw [el, ← h5] at P
        rw [h4 x, show A ++ b :: x :: D = A ++ [b] ++ x :: D by simp]
        exact P
    · rw [if_neg hw]; exact hl
  · rw [if_neg hb]; exact hl
theorem RC.push (k : RC C w r p d s L is mk) {x : Int} (hi : I64 x) (hm : L.length < 1000000) (hap : within s x 40 → x ∉ L → ∀ y ∈ L, ArenaPure.Apart y x) : Calls Try.prog 27 #[(.pointer (some ⟨p, 0, none⟩)), (.int .i64 x)] w (RNowC C w r p d (pushed s L x).1 (pushed s L x).2.1 is mk (.int .i64 (pushed s L x).2.2)) :=
  (rpush_calls k.q x hi hm).mono fun e w1 ⟨h1, h2, h3⟩ => by
    rw [rpushed_eq k.li hap] at h1 h2
    exact ⟨h1, k.opQ h2 (pushed_li k.li hap) h3, h3.mono fun _ _ h => .inl h⟩
theorem RC.insert (k : RC C w r p d s L is mk) {b x : Int} (hi : I64 x) (hm : L.length < 1000000) (hap : within s x 40 → x ∉ L → ∀ y ∈ L, ArenaPure.Apart y x) : Calls Try.prog 29 #[(.pointer (some ⟨p, 0, none⟩)), (.int .i64 b), (.int .i64 x)] w (RNowC C w r p d (inserted s L b x).1 (inserted s L b x).2.1 is mk (.int .i64 (inserted s L b x).2.2)) :=
  (rinsert_calls k.q b x hi hm).mono fun e w1 ⟨h1, h2, h3⟩ => by
    rw [rinserted_eq k.li hap] at h1 h2
    exact ⟨h1, k.opQ h2 (inserted_li k.li hap) h3, h3.mono fun _ _ h => .inl h⟩
set_option maxHeartbeats 400000 in
theorem rstep_last (k : RC C w r p d s L true mk) (hnd : L.Nodup) (hi : I64 mk) {x z : Int} (hb : before L mk = (x, true)) (hb2 : before L x = (z, false)) (hm : (removed s L mk).2.1.length < 1000000)
    (hap : within (removed s L mk).1 mk 40 → mk ∉ (removed s L mk).2.1 → ∀ y ∈ (removed s L mk).2.1, ArenaPure.Apart y mk) :
    Calls Try.prog 44 #[(.pointer (some ⟨d, 0, none⟩))] w (RNowC C w r p d (pushed (removed s L mk).1 (removed s L mk).2.1 mk).1 (pushed (removed s L mk).1 (removed s L mk).2.1 mk).2.1 true mk (.tuple #[.int .i64 x, .bool true])) := by
  have c1 := k.c1
  have c2 := k.c2
  have c3 := k.c3
  have k := Lib.hid k
  have hm := Lib.hid hm
  have hap := Lib.hid hap
  go_enter Try.func44, Try.ntmps44
  go_wp2_with fail
  have BF := Lib.hid ((k.out.fresh (Chg.drew _ _)).before hnd hb)
  go_region_held3 (fun w' => w'.cell? ⟨d, 2, none⟩ = some (.pointer (some ⟨p, 0, none⟩)) ∧ w'.cell? ⟨d, 3, none⟩ = some (.int .i64 mk)) (go_keep)
    (first
      | (go_at_call 31; refine BF.out.mono ?_; rintro e w4 ⟨rfl, hc⟩; have C0 := Lib.hid ((Chg.drew (fun _ => False) w).trans hc); have g2 := C0.out.cell c2 id; have g3 := C0.out.cell c3 id; clear hc; skip))
  have k4 := k.out.fresh C0.out
  have C4 : Hid (Chg (RB r p d) w w4) := C0.out.mono fun _ _ h => h.elim
  clear k C0 BF c1 c2 c3 g2 g3
  have c2 := k4.c2
  have k4 := Lib.hid k4
  go_wp2_with fail
  refine (k4.out.before hnd hb2).mono ?_
  rintro e w5 ⟨rfl, hc⟩
  have k5 := k4.out.fresh hc
  have C5 : Hid (Chg (RB r p d) w w5) := C4.out.trans (hc.mono fun _ _ h => h.elim)
  clear k4 C4 hc c2
  have c2 := k5.c2
  have c3 := k5.c3
  have k5 := Lib.hid k5
  go_wp2_with fail
  go_still_tail 8, (by kernel_rfl)
  change wpList _ _ _ _ _ w5.drew
  have k' := Lib.hid (k5.out.fresh (Chg.drew _ _))
  have C6 := Lib.hid (C5.out.trans (Chg.drew (RB r p d) w5))
  clear k5 c2 c3 C5
  generalize w5.drew = w6 at k' C6 ⊢
  go_wp2_with fail
  refine (k'.out.remove hi).mono ?_
  rintro e w7 ⟨rfl, k7, hc⟩
  have C7 := Lib.hid (C6.out.trans hc)
  have c2 := k7.c2
  have c3 := k7.c3
  have k7 := Lib.hid k7
  clear k' C6 hc
  go_wp2_with fail
  go_still_tail 8, (by kernel_rfl)
  change wpList _ _ _ _ _ w7.drew
  have k' := Lib.hid (k7.out.fresh (Chg.drew _ _))
  have C8 := Lib.hid (C7.out.trans (Chg.drew (RB r p d) w7))
  clear k7 c2 c3 C7
  generalize w7.drew = w8 at k' C8 ⊢
  go_wp2_with fail
  refine (k'.out.push hi hm.out hap.out).mono ?_
  rintro e w9 ⟨rfl, k9, hc⟩
  have C9 := Lib.hid (C8.out.trans hc)
  have k9 := Lib.hid k9
  clear k' C8 hc
  go_wp2_with fail
  go_ret2
  exact ⟨rfl, k9.out, C9.out⟩
set_option maxHeartbeats 400000 in
theorem rstep_more (k : RC C w r p d s L true mk) (hnd : L.Nodup) (hi : I64 mk) {x z : Int} (hb : before L mk = (x, true)) (hb2 : before L x = (z, true)) (hm : (removed s L mk).2.1.length < 1000000)
    (hap : within (removed s L mk).1 mk 40 → mk ∉ (removed s L mk).2.1 → ∀ y ∈ (removed s L mk).2.1, ArenaPure.Apart y mk) :
    Calls Try.prog 44 #[(.pointer (some ⟨d, 0, none⟩))] w (RNowC C w r p d (inserted (removed s L mk).1 (removed s L mk).2.1 z mk).1 (inserted (removed s L mk).1 (removed s L mk).2.1 z mk).2.1 true mk (.tuple #[.int .i64 x, .bool true])) := by
  have c1 := k.c1
  have c2 := k.c2
  have c3 := k.c3
  have k := Lib.hid k
  have hm := Lib.hid hm
  have hap := Lib.hid hap
  go_enter Try.func44, Try.ntmps44
  go_wp2_with fail
  have BF := Lib.hid ((k.out.fresh (Chg.drew _ _)).before hnd hb)
  go_region_held3 (fun w' => w'.cell? ⟨d, 2, none⟩ = some (.pointer (some ⟨p, 0, none⟩)) ∧ w'.cell? ⟨d, 3, none⟩ = some (.int .i64 mk)) (go_keep)
    (first
      | (go_at_call 31; refine BF.out.mono ?_; rintro e w4 ⟨rfl, hc⟩; have C0 := Lib.hid ((Chg.drew (fun _ => False) w).trans hc); have g2 := C0.out.cell c2 id; have g3 := C0.out.cell c3 id; clear hc; skip))
  have k4 := k.out.fresh C0.out
  have C4 : Hid (Chg (RB r p d) w w4) := C0.out.mono fun _ _ h => h.elim
  clear k C0 BF c1 c2 c3 g2 g3
  have c2 := k4.c2
  have k4 := Lib.hid k4
  go_wp2_with fail
  refine (k4.out.before hnd hb2).mono ?_
  rintro e w5 ⟨rfl, hc⟩
  have k5 := k4.out.fresh hc
  have C5 : Hid (Chg (RB r p d) w w5) := C4.out.trans (hc.mono fun _ _ h => h.elim)
  clear k4 C4 hc c2
  have c2 := k5.c2
  have c3 := k5.c3
  have k5 := Lib.hid k5
  go_wp2_with fail
  go_still_tail 8, (by kernel_rfl)
  change wpList _ _ _ _ _ w5.drew
  have k' := Lib.hid (k5.out.fresh (Chg.drew _ _))
  have C6 := Lib.hid (C5.out.trans (Chg.drew (RB r p d) w5))
  clear k5 c2 c3 C5
  generalize w5.drew = w6 at k' C6 ⊢
  go_wp2_with fail
  refine (k'.out.remove hi).mono ?_
  rintro e w7 ⟨rfl, k7, hc⟩
  have C7 := Lib.hid (C6.out.trans hc)
  have c2 := k7.c2
  have c3 := k7.c3
  have k7 := Lib.hid k7
  clear k' C6 hc
  go_wp2_with fail
  go_still_tail 9, (by kernel_rfl)
  change wpList _ _ _ _ _ w7.drew
  have k' := Lib.hid (k7.out.fresh (Chg.drew _ _))
  have C8 := Lib.hid (C7.out.trans (Chg.drew (RB r p d) w7))
  clear k7 c2 c3 C7
  generalize w7.drew = w8 at k' C8 ⊢
  go_wp2_with fail
  refine (k'.out.insert (b := z) hi hm.out hap.out).mono ?_
  rintro e w9 ⟨rfl, k9, hc⟩
  have C9 := Lib.hid (C8.out.trans hc)
  have k9 := Lib.hid k9
  clear k' C8 hc
  go_wp2_with fail
  go_ret2
  exact ⟨rfl, k9.out, C9.out⟩
end Go.Proofs.Ytfhffffdhlofgaa.Crawl

/- The walks of the reference of chapter 14, going on: Start. -/
namespace Go.Proofs.Ytfhffffdhlofgaa.Crawl
open Go Go.RowKit Go.Proofs.Ytfhffffdhlofgaa.Mem Go.Proofs.Ytfhffffdhlofgaa.CodecPure Go.Proofs.Ytfhffffdhlofgaa.ArenaPure Go.Proofs.Ytfhffffdhlofgaa.Codec Go.Proofs.Ytfhffffdhlofgaa.Arena Go.Proofs.Ytfhffffdhlofgaa.Item Go.Proofs.Ytfhffffdhlofgaa.Links
set_option linter.unusedVariables false
set_option maxRecDepth 100000
variable {C : Nat} {w w' : World} {r : Ra} {p d : Nat} {s : St} {L : List Int} {is : Bool} {mk : Int}
theorem RC.read (k : RC C w r p d s L is mk) (x : Int) (hi : I64 x) : Calls Try.prog 70 #[(.pointer (some ⟨r.g, 0, none⟩)), (.int .i64 x), (.int .i64 40)] w fun e w' => ∃ A n c, e = .returned (.tuple #[.slice A n c, .int .i64 (if within s x 40 then 0 else 1)]) ∧ Chg (fun _ => False) w w' :=
  (refread_calls k.q.ref x 40 hi).mono fun e w1 ⟨A, c, h1, h2, h3⟩ => ⟨A, (readA s x 40).1.length, c, by
    have : (readA s x 40).2 = if within s x 40 then 0 else 1 := by unfold readA; split <;> rfl
    rw [h1, this], h3⟩
theorem rstart_walks (k : RC C w r p d s L true mk) (x : Int) (hi : I64 x) : Calls Try.prog 43 #[(.pointer (some ⟨d, 0, none⟩)), (.pointer (some ⟨p, 0, none⟩)), (.int .i64 x)] w fun e w' => e = .returned (.int .i64 5) ∧ Chg (fun _ => False) w w' := by
  have c0 := k.c0
  obtain ⟨er, he⟩ : ∃ er : Int, (if within s x 40 then 0 else 1) = er := ⟨_, rfl⟩
  have RD := k.read x hi
  rw [he] at RD
  have RD := Lib.hid RD
  have k := Lib.hid k
  clear he
  go_enter Try.func43, Try.ntmps43
  go_wp2_with fail
  refine RD.out.mono ?_
  rintro e w1 ⟨A, n, c, rfl, hc⟩
  have c1 := (k.out.fresh hc).c1
  have hc := Lib.hid hc
  clear c0 k RD
  go_wp2_with fail
  go_ret
  exact ⟨rfl, hc.out⟩
theorem rstart_range (k : RC C w r p d s L false mk) (x : Int) (hi : I64 x) (hw : ¬ within s x 40) : Calls Try.prog 43 #[(.pointer (some ⟨d, 0, none⟩)), (.pointer (some ⟨p, 0, none⟩)), (.int .i64 x)] w fun e w' => e = .returned (.int .i64 1) ∧ Chg (fun _ => False) w w' := by
  have c0 := k.c0
  have RD := k.read x hi
  rw [if_neg hw] at RD
  have RD := Lib.hid RD
  have k := Lib.hid k
  clear hw
  go_enter Try.func43, Try.ntmps43
  go_wp2_with fail
  refine RD.out.mono ?_
  rintro e w1 ⟨A, n, c, rfl, hc⟩
  have c1 := (k.out.fresh hc).c1
  have hc := Lib.hid hc
  clear c0 k RD
  go_wp2_with fail
  go_ret
  exact ⟨rfl, hc.out⟩
theorem rstart_twice (k : RC C w r p d s L false mk) (x : Int) (hi : I64 x) (hw : within s x 40) (hm : x ∈ L) : Calls Try.prog 43 #[(.pointer (some ⟨d, 0, none⟩)), (.pointer (some ⟨p, 0, none⟩)), (.int .i64 x)] w fun e w' => e = .returned (.int .i64 4) ∧ Chg (fun _ => False) w w' := by
  have c0 := k.c0
  have RD := k.read x hi
  rw [if_pos hw] at RD
  have RD := Lib.hid RD
  have k := Lib.hid k
  have HX := Lib.hid (fun W (q : RQ C W r p s L) => rhas_calls q x)
  rw [decide_eq_true hm] at HX
  clear hw hm
  go_enter Try.func43, Try.ntmps43
  go_wp2_with fail
  refine RD.out.mono ?_
  rintro e w1 ⟨A, n, c, rfl, hc⟩
  have k1 := k.out.fresh hc
  have c1 := k1.c1
  have k1 := Lib.hid k1
  have hc := Lib.hid hc
  clear c0 k RD
  go_wp2_with fail
  refine (HX.out _ k1.out.q).mono ?_
  rintro e w2 ⟨rfl, h2⟩
  have C2' := Lib.hid (hc.out.trans h2)
  clear h2 hc k1
  go_wp2_with fail
  go_ret
  exact ⟨rfl, C2'.out⟩
theorem rstart_none (k : RC C w r p d s [] false mk) (x : Int) (hi : I64 x) (hw : within s x 40) : Calls Try.prog 43 #[(.pointer (some ⟨d, 0, none⟩)), (.pointer (some ⟨p, 0, none⟩)), (.int .i64 x)] w fun e w' => e = .returned (.int .i64 3) ∧ Chg (fun _ => False) w w' := by
  have c0 := k.c0
  have RD := k.read x hi
  rw [if_pos hw] at RD
  have RD := Lib.hid RD
  have k := Lib.hid k
  have HX : Hid (∀ W, RQ C W r p s [] → Calls Try.prog 32 #[(.pointer (some ⟨p, 0, none⟩)), (.int .i64 x)] W fun e w' => e = .returned (.bool false) ∧ Chg (fun _ => False) W w') := fun W q => rhas_calls q x
  clear hw
  go_enter Try.func43, Try.ntmps43
  go_wp2_with fail
  refine RD.out.mono ?_
  rintro e w1 ⟨A, n, c, rfl, hc⟩
  have k1 := k.out.fresh hc
  have c1 := k1.c1
  have k1 := Lib.hid k1
  have hc := Lib.hid hc
  clear c0 k RD
  go_wp2_with fail
  refine (HX.out _ k1.out.q).mono ?_
  rintro e w2 ⟨rfl, h2⟩
  obtain ⟨A2, c2, -, p1, -, -⟩ := (k1.out.fresh h2).q.open
  have p1 : w2.cell? ⟨p, 1, none⟩ = some (.slice A2 0 c2) := p1
  have C2' := Lib.hid (hc.out.trans h2)
  clear h2 hc k1
  go_wp2_with fail
  go_ret
  exact ⟨rfl, C2'.out⟩
theorem RC.begun (k : RC C w r p d s L is mk) (x : Int) : RC C (((w.setCell ⟨d, 1, none⟩ (.bool true)).setCell ⟨d, 2, none⟩ (.pointer (some ⟨p, 0, none⟩))).setCell ⟨d, 3, none⟩ (.int .i64 x)) r p d s L true x := by
  obtain ⟨qv, e, h⟩ := k.head
  have h1 : (w.setCell ⟨d, 1, none⟩ (.bool true)).heap[d]? = some (.cells #[(.pointer (some ⟨r.g, 0, none⟩)), .bool true, qv, .int .i64 mk] 63 (0, 0)) := by rw [setCell_row h, setRow_heap w _ _ _ _ (0, 0) h]; rfl
  have h2 : ((w.setCell ⟨d, 1, none⟩ (.bool true)).setCell ⟨d, 2, none⟩ (.pointer (some ⟨p, 0, none⟩))).heap[d]? = some (.cells #[(.pointer (some ⟨r.g, 0, none⟩)), .bool true, (.pointer (some ⟨p, 0, none⟩)), .int .i64 mk] 63 (0, 0)) := by rw [setCell_row h1, setRow_heap _ _ _ _ _ (0, 0) h1]; rfl
  have cc : ∀ (W : World) i v, Chg (fun y => y = d) W (W.setCell ⟨d, i, none⟩ v) := fun W i v => Chg.setCell _ _ _ rfl
  exact ⟨k.q.chg (((cc _ _ _).trans (cc _ _ _)).trans (cc _ _ _)) fun y e => by subst e; exact ⟨k.lo, k.sep⟩, k.li, ⟨(.pointer (some ⟨p, 0, none⟩)), fun _ => rfl, by rw [setCell_row h2, setRow_heap _ _ _ _ _ (0, 0) h2]; rfl⟩, k.lo, k.sep⟩
theorem RC.keyed (k : RC C w r p d s L is mk) {x : Int} (hw : within s x 40) (hi : I64 x) (hl : LI (Crawl.keyed s x) L) : Calls Try.prog 64 #[(.pointer (some ⟨r.g, 0, none⟩)), (.int .i64 x), (.int .i64 8), (.int .i64 0)] w (RNowC C w r p d (Crawl.keyed s x) L is mk (.int .i64 0)) :=
  (refset_calls k.q.ref x 8 0 hi (by decide)).mono fun e w1 ⟨h1, h2, h3⟩ => by
    obtain ⟨e1, e2⟩ := keyed_lay k.li.ok hw
    rw [e1] at h1 h2
    exact ⟨h1, k.opQ (k.q.arena h2 h3) hl (h3.mono fun _ _ h => .inl h), h3.mono fun _ _ h => .inl (.inl h)⟩
set_option maxHeartbeats 400000 in
theorem rstart_ok (k : RC C w r p d s L false mk) (x : Int) (hi : I64 x) (hw : within s x 40) (hm : x ∉ L) {t : Int} (ht : tail L = (t, true)) (hne : 0 < L.length) (hml : L.length < 1000000) (hl : LI (keyed s x) L)
    (hap : within (keyed s x) x 40 → x ∉ L → ∀ y ∈ L, ArenaPure.Apart y x) :
    Calls Try.prog 43 #[(.pointer (some ⟨d, 0, none⟩)), (.pointer (some ⟨p, 0, none⟩)), (.int .i64 x)] w (RNowC C w r p d (inserted (keyed s x) L t x).1 (inserted (keyed s x) L t x).2.1 true x (.int .i64 0)) := by
  have c0 := k.c0
  have RD := k.read x hi
  rw [if_pos hw] at RD
  have RD := Lib.hid RD
  have k := Lib.hid k
  have HX := Lib.hid (fun W (q : RQ C W r p s L) => rhas_calls q x)
  rw [decide_eq_false hm] at HX
  have TL := Lib.hid (fun W (q : RQ C W r p (keyed s x) L) => rtail_calls q)
  rw [ht] at TL
  obtain ⟨n, hn⟩ : ∃ n, L.length = n := ⟨_, rfl⟩
  rw [hn] at hne
  have hne' : ¬ (n : Int) = 0 := by omega
  have hn := Lib.hid hn
  have hw := Lib.hid hw
  have hl := Lib.hid hl
  have hap := Lib.hid hap
  clear hm ht
  go_enter Try.func43, Try.ntmps43
  go_wp2_with fail
  refine RD.out.mono ?_
  rintro e w1 ⟨A, nn, c, rfl, hc⟩
  have k1 := k.out.fresh hc
  have c1 := k1.c1
  have k1 := Lib.hid k1
  have hc := Lib.hid hc
  clear c0 k RD
  go_wp2_with fail
  refine (HX.out _ k1.out.q).mono ?_
  rintro e w2 ⟨rfl, h2⟩
  have k2 := k1.out.fresh h2
  obtain ⟨A2, c2, -, p1, -, -⟩ := k2.q.open
  rw [hn.out] at p1
  have c0 := k2.c0
  have k2 := Lib.hid k2
  have C2' : Hid (Chg (RB r p d) w w2) := (hc.out.trans h2).mono fun _ _ h => h.elim
  clear h2 hc k1 c1 HX
  go_wp2_with fail
  refine (k2.out.keyed hw.out hi hl.out).mono ?_
  rintro e w3 ⟨rfl, k3, hc⟩
  have k3 := Lib.hid k3
  have C3 := Lib.hid (C2'.out.trans hc)
  clear k2 c0 p1 hc C2'
  go_wp2_with fail
  refine (TL.out _ k3.out.q).mono ?_
  rintro e w4 ⟨rfl, hc⟩
  have k4 := Lib.hid (k3.out.fresh hc)
  have C4 : Hid (Chg (RB r p d) w w4) := C3.out.trans (hc.mono fun _ _ h => h.elim)
  clear k3 hc C3 TL
  go_wp2_with fail
  refine (k4.out.insert (b := t) hi hml hap.out).mono ?_
  rintro e w5 ⟨rfl, k5, hc⟩
  have C5 := Lib.hid (C4.out.trans hc)
  have d1 := k5.c1
  have d3 := k5.c3
  obtain ⟨qv, -, hh⟩ := k5.head
  have d2 : w5.cell? ⟨d, 2, none⟩ = some qv := by rw [blk_cell hh]; rfl
  have z1 := blk_frozen hh 1
  have z2 := blk_frozen hh 2
  have z3 := blk_frozen hh 3
  have k6 := Lib.hid (k5.begun x)
  have C6 : Hid (Chg (RB r p d) w5 (((w5.setCell ⟨d, 1, none⟩ (.bool true)).setCell ⟨d, 2, none⟩ (.pointer (some ⟨p, 0, none⟩))).setCell ⟨d, 3, none⟩ (.int .i64 x))) := ((Chg.setCell (S := RB r p d) _ _ _ (.inr rfl)).trans (Chg.setCell _ _ _ (.inr rfl))).trans (Chg.setCell _ _ _ (.inr rfl))
  clear k4 k5 hh hc C4
  go_wp2_with fail
  go_ret
  exact ⟨rfl, k6.out, C5.out.trans C6.out⟩
end Go.Proofs.Ytfhffffdhlofgaa.Crawl

/- Both walks of chapter 14 together. -/
namespace Go.Proofs.Ytfhffffdhlofgaa.Crawl
open Go Go.RowKit Go.Proofs.Ytfhffffdhlofgaa.Mem Go.Proofs.Ytfhffffdhlofgaa.CodecPure Go.Proofs.Ytfhffffdhlofgaa.ArenaPure Go.Proofs.Ytfhffffdhlofgaa.Codec Go.Proofs.Ytfhffffdhlofgaa.Arena Go.Proofs.Ytfhffffdhlofgaa.Item Go.Proofs.Ytfhffffdhlofgaa.Links
set_option linter.unusedVariables false
set_option maxRecDepth 100000
variable {B C : Nat} {w0 w w' : World} {a : Ar} {r : Ra} {h : Qh} {p cb d : Nat} {s s1 s2 : St} {L L1 L2 : List Int} {is i1 i2 : Bool} {mk m1 m2 : Int}
structure CR (B : Nat) (w0 w : World) (a : Ar) (r : Ra) (h : Qh) (p C cb d : Nat) (s1 : St) (L1 : List Int) (i1 : Bool) (m1 : Int) (s2 : St) (L2 : List Int) (i2 : Bool) (m2 : Int) : Prop where
  c : CA B w0 w a h cb s1 L1 i1 m1
  rc : RC C w r p d s2 L2 i2 m2
  sepq : ∀ x, C2 a h cb x → x < C ∧ x ≠ r.g ∧ x ≠ r.o ∧ x ≠ r.b ∧ x ≠ p ∧ x ≠ d
  sepr : ∀ y, (y = r.g ∨ RB r p d y) → B ≤ y ∧ y ≠ a.g ∧ y ≠ a.ps ∧ y ∉ a.pb ∧ y ≠ h.q ∧ y ≠ h.m ∧ y ≠ cb
theorem CR.opC (k : CR B w0 w a r h p C cb d s1 L1 i1 m1 s2 L2 i2 m2) (hq : CA B w0 w' a h cb s L is mk) (hc : Chg (C2 a h cb) w w') : CR B w0 w' a r h p C cb d s L is mk s2 L2 i2 m2 := by
  obtain ⟨qv, e, hh⟩ := k.rc.head
  exact ⟨hq, ⟨k.rc.q.chg hc fun x hx => ⟨(k.sepq x hx).1, (k.sepq x hx).2.1, (k.sepq x hx).2.2.1, (k.sepq x hx).2.2.2.1, (k.sepq x hx).2.2.2.2.1⟩, k.rc.li, ⟨qv, e, hc.keep hh fun hx => (k.sepq d hx).2.2.2.2.2 rfl⟩, k.rc.lo, k.rc.sep⟩, k.sepq, k.sepr⟩
theorem CR.opR (k : CR B w0 w a r h p C cb d s1 L1 i1 m1 s2 L2 i2 m2) (hq : RC C w' r p d s L is mk) (hc : Chg (RB r p d) w w') : CR B w0 w' a r h p C cb d s1 L1 i1 m1 s L is mk :=
  ⟨⟨k.c.q.other hc fun y hy => by
      obtain ⟨a1, a2, a3, a4, a5, a6, _⟩ := k.sepr y (.inr hy)
      exact ⟨a1, a2, a3, a4, a5, a6⟩, hc.keep k.c.head fun e => (k.sepr cb (.inr e)).2.2.2.2.2.2 rfl, k.c.low, k.c.sep⟩, hq, k.sepq, k.sepr⟩
theorem CR.fresh (k : CR B w0 w a r h p C cb d s1 L1 i1 m1 s2 L2 i2 m2) (hc : Chg (fun _ => False) w w') : CR B w0 w' a r h p C cb d s1 L1 i1 m1 s2 L2 i2 m2 :=
  ⟨k.c.fresh hc, k.rc.fresh hc, k.sepq, k.sepr⟩
/-- both walks, not begun, over both queues, without items -/
theorem CR.start {w3 w4 : World} {C0 : Nat} (k : QR B w0 w3 a r h p C0 s [] s []) (hp : p < w3.heap.size) (hh : w3.heap[p]? = some (.cells #[(.pointer (some ⟨r.g, 0, none⟩)), .slice none 0 0] 50 (0, 0))) (c : CA B w0 w4 a h cb s [] false 0) (hc : Chg (fun _ => False) w3 w4) (h1 : w3.heap.size ≤ cb) (hB : B ≤ w4.heap.size) :
    CR B w0 (w4.alloc (.cells #[(.pointer (some ⟨r.g, 0, none⟩)), .bool false, .pointer none, .int .i64 0] 63)) a r h p (w4.heap.size + 1) cb w4.heap.size s [] false 0 s [] false 0 := by
  have cl : Chg (fun _ => False) w3 (w4.alloc (.cells #[(.pointer (some ⟨r.g, 0, none⟩)), .bool false, .pointer none, .int .i64 0] 63)) := hc.trans (Chg.alloc _ _ _)
  have sz := hc.size
  have rg := blk_lt k.rq.ref.head
  have ro := k.rq.ref.o_lt
  have rb := k.rq.ref.b_lt
  have bl := k.q.blocks
  have lcb := blk_lt c.head
  have hd := heap_alloc_at w4 (.cells #[(.pointer (some ⟨r.g, 0, none⟩)), .bool false, .pointer none, .int .i64 0] 63)
  refine ⟨c.fresh (Chg.alloc _ _ _), ⟨⟨k.rq.ref.chg cl id id id, ⟨none, 0, cl.keep hh id, Mem.Own.nil _ _ _ _⟩, ⟨by omega, by omega, by omega, by omega, by simp⟩, k.rq.sep, fun x hx => by simp at hx, by simp⟩, k.q.q.li, ⟨_, (fun e => by cases e), hd⟩, by omega, ⟨by omega, by omega, by omega, by omega⟩⟩, fun x hx => ?_, fun y hy => ?_⟩
  · rcases hx with hx | rfl
    · have lt := k.q.q2_lt x hx
      have := k.sepq x hx
      exact ⟨by omega, this.2.1, this.2.2.1, this.2.2.2.1, this.2.2.2.2, by omega⟩
    · exact ⟨by omega, by omega, by omega, by omega, by omega, by omega⟩
  · have fromQ : (y = r.g ∨ r.has y ∨ y = p) → y < w3.heap.size → B ≤ y ∧ y ≠ a.g ∧ y ≠ a.ps ∧ y ∉ a.pb ∧ y ≠ h.q ∧ y ≠ h.m ∧ y ≠ cb := fun e lt => by
      obtain ⟨a1, a2, a3, a4, a5, a6⟩ := k.sepr y e
      exact ⟨a1, a2, a3, a4, a5, a6, by omega⟩
    rcases hy with e | ((e | e) | e) | e
    · exact fromQ (.inl e) (by omega)
    · exact fromQ (.inr (.inl (.inl e))) (by omega)
    · exact fromQ (.inr (.inl (.inr e))) (by omega)
    · exact fromQ (.inr (.inr e)) (by omega)
    · subst e
      exact ⟨hB, by omega, by omega, fun hm => by have := bl.2.2.1 _ hm; omega, by omega, by omega, by omega⟩
end Go.Proofs.Ytfhffffdhlofgaa.Crawl

/- Chapter 14's marks. -/
namespace Go.Proofs.Ytfhffffdhlofgaa.Crawl
open Go Go.RowKit Go.Proofs.Ytfhffffdhlofgaa.Mem Go.Proofs.Ytfhffffdhlofgaa.CodecPure Go.Proofs.Ytfhffffdhlofgaa.ArenaPure Go.Proofs.Ytfhffffdhlofgaa.Codec Go.Proofs.Ytfhffffdhlofgaa.Arena Go.Proofs.Ytfhffffdhlofgaa.Item Go.Proofs.Ytfhffffdhlofgaa.Links
set_option linter.unusedVariables false
set_option maxRecDepth 100000
def markOf (n : Int) : Int := if 0 ≤ n ∧ n < 4000 then 2048 + 64 * (n % 16) else n
theorem mark_calls (n : Int) (w : World) : Calls Try.prog 42 #[(.int .i64 n)] w fun e w' => e = .returned (.int .i64 (markOf n)) ∧ w' = w := by
  unfold markOf
  by_cases h : 0 ≤ n ∧ n < 4000
  · rw [if_pos h]
    obtain ⟨h1, h2⟩ := h
    have e : n.tmod 16 = n % 16 := Int.tmod_eq_emod_of_nonneg h1
    have b1 : 0 ≤ n % 16 ∧ n % 16 < 16 := ⟨Int.emod_nonneg _ (by decide), Int.emod_lt_of_pos _ (by decide)⟩
    generalize n % 16 = m at e b1 ⊢
    have k1 : IntKind.i64.wrap (64 * m) = 64 * m := IntWalk.i64_in _ (by omega)
    have k2 : IntKind.i64.wrap (2048 + 64 * m) = 2048 + 64 * m := IntWalk.i64_in _ (by omega)
    clear b1
    go_enter Try.func42, Try.ntmps42
    go_wp2
    go_ret
    exact ⟨rfl, rfl⟩
  · rw [if_neg h]
    by_cases h1 : 0 ≤ n
    · have h2 : ¬ n < 4000 := fun e => h ⟨h1, e⟩
      clear h
      go_enter Try.func42, Try.ntmps42
      go_wp2
      go_ret
      exact ⟨rfl, rfl⟩
    · clear h
      go_enter Try.func42, Try.ntmps42
      go_wp2
      go_ret
      exact ⟨rfl, rfl⟩
theorem mark_ok (n : Int) : In64 (markOf n) ∨ markOf n < 0 ∨ 4000 ≤ markOf n := by
  unfold markOf In64
  split
  · exact .inl (by omega)
  · exact .inr (by omega)
/-- a place that no page holds -/
theorem mark_out {s : St} (ho : s.own = [1, 1, 1, -1]) {x : Int} (h : x < 0 ∨ 4000 ≤ x) : ¬ within s x 40 := by
  unfold within
  rw [ho]
  rintro ⟨h1, h2, h3, h4, h5⟩
  have e : (x / 1024).toNat = 3 := by simp at h3; omega
  rw [e] at h4
  exact absurd h4 (by decide)
end Go.Proofs.Ytfhffffdhlofgaa.Crawl

/- Chapter 14: what an act of a walk comes to, the program's and the reference's alike. -/
namespace Go.Proofs.Ytfhffffdhlofgaa.Crawl
open Go Go.RowKit Go.Proofs.Ytfhffffdhlofgaa.Mem Go.Proofs.Ytfhffffdhlofgaa.CodecPure Go.Proofs.Ytfhffffdhlofgaa.ArenaPure Go.Proofs.Ytfhffffdhlofgaa.Codec Go.Proofs.Ytfhffffdhlofgaa.Arena Go.Proofs.Ytfhffffdhlofgaa.Item Go.Proofs.Ytfhffffdhlofgaa.Links
set_option linter.unusedVariables false
set_option maxRecDepth 100000
variable {B C : Nat} {w0 w w' : World} {a : Ar} {r : Ra} {h : Qh} {p cb d : Nat} {s s1 s2 : St} {L L1 L2 : List Int} {is i1 i2 : Bool} {mk m1 m2 : Int}
theorem before_mem {L : List Int} {x y : Int} (h : before L x = (y, true)) : y ∈ L := by
  unfold before at h
  split at h
  · rename_i c
    obtain ⟨A, C, hL, hA, -⟩ := split_at x L c.1
    injection h with h _
    rw [hL, prevL_at _ hA] at h
    rcases List.eq_nil_or_concat A with rfl | ⟨A', z, rfl⟩
    · exact absurd (by rw [hL]; rfl) c.2
    · rw [List.concat_eq_append] at *
      rw [hL]
      simp at h
      simp [h]
  · cases h
theorem removed_mem {y x : Int} (hy : y ∈ (removed s L x).2.1) : y ∈ L := by
  unfold removed at hy
  split at hy
  · exact List.mem_of_mem_erase hy
  · exact hy
theorem removed_len (s : St) (L : List Int) (x : Int) : (removed s L x).2.1.length ≤ L.length := by
  unfold removed
  split
  · exact List.length_erase_le
  · exact Nat.le_refl _
theorem inserted_len (s : St) (L : List Int) (b x : Int) : (inserted s L b x).2.1.length ≤ L.length + 1 := by
  unfold inserted insTail
  split
  · rename_i hb
    split
    · split
      · exact Nat.le_succ _
      · obtain ⟨A, C, hL, hA, h4, -⟩ := split_at b L hb
        rw [h4]
        show _ ≤ _
        rw [hL]
        simp
        omega
    · exact Nat.le_succ _
  · exact Nat.le_succ _
theorem pushed_len (s : St) (L : List Int) (x : Int) : (pushed s L x).2.1.length ≤ L.length + 1 := by
  unfold pushed
  split
  · split
    · exact Nat.le_succ _
    · exact Nat.le_refl _
  · exact Nat.le_succ _
/-- what an act of a walk comes to -/
structure Z where
  all ::
  s : St
  L : List Int
  is : Bool
  mk : Int
  x : Int
  b : Bool
def stepZ (s : St) (L : List Int) (is : Bool) (mk : Int) : Z :=
  if is = false then ⟨s, L, false, mk, 0, false⟩
  else if (before L mk).2 = false then ⟨(removed s L mk).1, (removed s L mk).2.1, false, mk, mk, false⟩
  else if (before L (before L mk).1).2 = false then ⟨(pushed (removed s L mk).1 (removed s L mk).2.1 mk).1, (pushed (removed s L mk).1 (removed s L mk).2.1 mk).2.1, true, mk, (before L mk).1, true⟩
  else ⟨(inserted (removed s L mk).1 (removed s L mk).2.1 (before L (before L mk).1).1 mk).1, (inserted (removed s L mk).1 (removed s L mk).2.1 (before L (before L mk).1).1 mk).2.1, true, mk, (before L mk).1, true⟩
def stopZ (s : St) (L : List Int) (is : Bool) (mk : Int) : Z :=
  if is = false then ⟨s, L, false, mk, 0, false⟩ else ⟨(removed s L mk).1, (removed s L mk).2.1, false, mk, mk, true⟩
def startZ (s : St) (L : List Int) (is : Bool) (mk x : Int) : Z :=
  if is = true then ⟨s, L, true, mk, 5, false⟩
  else if ¬ within s x 40 then ⟨s, L, false, mk, 1, false⟩
  else if x ∈ L then ⟨s, L, false, mk, 4, false⟩
  else if L = [] then ⟨s, L, false, mk, 3, false⟩
  else ⟨(inserted (keyed s x) L (tail L).1 x).1, (inserted (keyed s x) L (tail L).1 x).2.1, true, x, 0, false⟩
theorem stepZ_len (s : St) (L : List Int) (is : Bool) (mk : Int) : (stepZ s L is mk).L.length ≤ L.length + 1 := by
  unfold stepZ
  have := removed_len s L mk
  split
  · exact Nat.le_succ _
  · split
    · show (removed s L mk).2.1.length ≤ _; omega
    · split
      · have := pushed_len (removed s L mk).1 (removed s L mk).2.1 mk; show (pushed _ _ _).2.1.length ≤ _; omega
      · have := inserted_len (removed s L mk).1 (removed s L mk).2.1 (before L (before L mk).1).1 mk; show (inserted _ _ _ _).2.1.length ≤ _; omega
theorem stopZ_len (s : St) (L : List Int) (is : Bool) (mk : Int) : (stopZ s L is mk).L.length ≤ L.length + 1 := by
  unfold stopZ
  have := removed_len s L mk
  split
  · exact Nat.le_succ _
  · show (removed s L mk).2.1.length ≤ _; omega
theorem startZ_len (s : St) (L : List Int) (is : Bool) (mk x : Int) : (startZ s L is mk x).L.length ≤ L.length + 1 := by
  unfold startZ
  split
  · exact Nat.le_succ _
  · split
    · exact Nat.le_succ _
    · split
      · exact Nat.le_succ _
      · split
        · exact Nat.le_succ _
        · exact inserted_len _ _ _ _
theorem stepZ_mark (s : St) (L : List Int) (is : Bool) (mk : Int) : (stepZ s L is mk).mk = mk ∧ ((stepZ s L is mk).is = true → is = true) := by
  unfold stepZ
  cases is
  · exact ⟨rfl, fun e => e⟩
  · refine ⟨?_, fun _ => rfl⟩
    split
    · rfl
    · split
      · rfl
      · split <;> rfl
theorem stopZ_mark (s : St) (L : List Int) (is : Bool) (mk : Int) : (stopZ s L is mk).mk = mk ∧ ((stopZ s L is mk).is = true → is = true) := by
  unfold stopZ
  cases is
  · exact ⟨rfl, fun e => e⟩
  · exact ⟨rfl, fun _ => rfl⟩
theorem startZ_mark (s : St) (L : List Int) (is : Bool) (mk x : Int) (hx : within s x 40 → In64 x) (hm : is = true → In64 mk) : (startZ s L is mk x).is = true → In64 (startZ s L is mk x).mk := by
  unfold startZ
  cases is
  · rw [if_neg (by decide)]
    by_cases hw : within s x 40
    · rw [if_neg fun q => q hw]
      split
      · intro e; cases e
      · split
        · intro e; cases e
        · exact fun _ => hx hw
    · rw [if_pos hw]; intro e; cases e
  · exact fun _ => hm rfl
/-! ### the program's -/
def ZNow (B : Nat) (w0 w : World) (a : Ar) (h : Qh) (cb : Nat) (z : Z) (v : Value) (e : Ending) (w' : World) : Prop := e = .returned v ∧ CA B w0 w' a h cb z.s z.L z.is z.mk ∧ Chg (C2 a h cb) w w'
theorem stepC (k : CA B w0 w a h cb s L is mk) (hm : is = true → In64 mk) : Calls Try.prog 39 #[(.pointer (some ⟨cb, 0, none⟩))] w (ZNow B w0 w a h cb (stepZ s L is mk) (.tuple #[.int .i64 (stepZ s L is mk).x, .bool (stepZ s L is mk).b])) := by
  cases is
  · exact (step_no k).mono fun e w' ⟨h1, h2⟩ => by subst h2; exact ⟨h1, k, Chg.refl _ _⟩
  · have hm := hm rfl
    unfold stepZ
    rw [if_neg (by decide)]
    rcases h1 : before L mk with ⟨x, _ | _⟩
    · rw [if_pos rfl]
      exact step_end k h1
    · rw [if_neg (fun e => by cases e)]
      show Calls _ _ _ _ (ZNow _ _ _ _ _ _ (if (before L x).2 = false then _ else _) _)
      rcases h2 : before L x with ⟨z, _ | _⟩
      · rw [if_pos rfl]
        exact step_last k h1 h2 hm.chunk hm.i64
      · rw [if_neg (fun e => by cases e)]
        exact step_more k h1 h2 hm.chunk hm.i64 (k.item (before_mem h2))
theorem stopC (k : CA B w0 w a h cb s L is mk) : Calls Try.prog 40 #[(.pointer (some ⟨cb, 0, none⟩))] w (ZNow B w0 w a h cb (stopZ s L is mk) (.tuple #[.int .i64 (stopZ s L is mk).x, .bool (stopZ s L is mk).b])) := by
  cases is
  · exact (stop_no k).mono fun e w' ⟨h1, h2⟩ => by subst h2; exact ⟨h1, k, Chg.refl _ _⟩
  · exact stop_yes k
theorem tail_mem {L : List Int} (h : L ≠ []) : tail L = ((tail L).1, true) ∧ (tail L).1 ∈ L := by
  unfold tail
  rw [if_neg h]
  refine ⟨rfl, ?_⟩
  rcases List.eq_nil_or_concat L with rfl | ⟨A', z, rfl⟩
  · exact absurd rfl h
  · rw [List.concat_eq_append]; simp
theorem startC (k : CA B w0 w a h cb s L is mk) (x : Int) (hx : within s x 40 → In64 x) (hi : I64 x) : Calls Try.prog 38 #[(.pointer (some ⟨cb, 0, none⟩)), (.pointer (some ⟨h.q, 0, none⟩)), (.int .i64 x)] w (ZNow B w0 w a h cb (startZ s L is mk x) (.int .i64 (startZ s L is mk x).x)) := by
  unfold startZ
  cases is
  · rw [if_neg (by decide)]
    by_cases hw : within s x 40
    · rw [if_neg fun q => q hw]
      by_cases hm : x ∈ L
      · rw [if_pos hm]
        exact (start_twice k x hi hw hm).mono fun e w' ⟨h1, h2⟩ => ⟨h1, k.fresh h2, h2.mono fun _ _ h => h.elim⟩
      · rw [if_neg hm]
        by_cases hL : L = []
        · rw [if_pos hL]
          subst hL
          exact (start_none k x hi hw).mono fun e w' ⟨h1, h2⟩ => ⟨h1, k.fresh h2, h2.mono fun _ _ h => h.elim⟩
        · rw [if_neg hL]
          obtain ⟨t1, t2⟩ := tail_mem hL
          exact start_ok k x (hx hw).chunk hi hw hm t1 (k.item t2)
    · rw [if_pos hw]
      exact (start_range k x hi hw).mono fun e w' ⟨h1, h2⟩ => ⟨h1, k.fresh h2, h2.mono fun _ _ h => h.elim⟩
  · exact (start_walks k x).mono fun e w' ⟨h1, h2⟩ => by subst h2; exact ⟨h1, k, Chg.refl _ _⟩
/-! ### the reference's -/
def ZNowR (C : Nat) (w : World) (r : Ra) (p d : Nat) (z : Z) (v : Value) (e : Ending) (w' : World) : Prop := e = .returned v ∧ RC C w' r p d z.s z.L z.is z.mk ∧ Chg (RB r p d) w w'
theorem removed_ap (hmul : ∀ y ∈ L, y % 64 = 0) (hmk : mk % 64 = 0) {P : Prop} : P → mk ∉ (removed s L mk).2.1 → ∀ y ∈ (removed s L mk).2.1, ArenaPure.Apart y mk :=
  fun _ hx y hy => chunk_apart (hmul y (removed_mem hy)) hmk fun e => hx (e ▸ hy)
theorem stepR (k : RC C w r p d s L is mk) (hnd : L.Nodup) (hm : is = true → In64 mk) (hlen : L.length < 1000000) (hmul : ∀ y ∈ L, y % 64 = 0) : Calls Try.prog 44 #[(.pointer (some ⟨d, 0, none⟩))] w (ZNowR C w r p d (stepZ s L is mk) (.tuple #[.int .i64 (stepZ s L is mk).x, .bool (stepZ s L is mk).b])) := by
  cases is
  · exact (rstep_no k).mono fun e w' ⟨h1, h2⟩ => by subst h2; exact ⟨h1, k, Chg.refl _ _⟩
  · have hm := hm rfl
    have hl : (removed s L mk).2.1.length < 1000000 := Nat.lt_of_le_of_lt (removed_len s L mk) hlen
    unfold stepZ
    rw [if_neg (by decide)]
    rcases h1 : before L mk with ⟨x, _ | _⟩
    · rw [if_pos rfl]
      exact rstep_end k hnd hm.i64 h1
    · rw [if_neg (fun e => by cases e)]
      show Calls _ _ _ _ (ZNowR _ _ _ _ _ (if (before L x).2 = false then _ else _) _)
      rcases h2 : before L x with ⟨z, _ | _⟩
      · rw [if_pos rfl]
        exact rstep_last k hnd hm.i64 h1 h2 hl (removed_ap hmul hm.1)
      · rw [if_neg (fun e => by cases e)]
        exact rstep_more k hnd hm.i64 h1 h2 hl (removed_ap hmul hm.1)
theorem stopR (k : RC C w r p d s L is mk) (hm : is = true → In64 mk) : Calls Try.prog 45 #[(.pointer (some ⟨d, 0, none⟩))] w (ZNowR C w r p d (stopZ s L is mk) (.tuple #[.int .i64 (stopZ s L is mk).x, .bool (stopZ s L is mk).b])) := by
  cases is
  · exact (rstop_no k).mono fun e w' ⟨h1, h2⟩ => by subst h2; exact ⟨h1, k, Chg.refl _ _⟩
  · exact rstop_yes k (hm rfl).i64
theorem keyed_li (hl : LI s L) (hmul : ∀ y ∈ L, y % 64 = 0) {x : Int} (hx : x % 64 = 0) (hw : within s x 40) : LI (keyed s x) L := by
  obtain ⟨-, hL⟩ := keyed_lay hl.ok hw
  have p0 : ∀ y ∈ L, 0 ≤ y := fun y hy => (hl.hdr y hy).2.1
  exact ⟨hL.ok, fun y hy => hL.hdr (hl.hdr y hy), hl.apart, seg_frame hL L _ _ p0 (fun y hy i hi e => by
    obtain ⟨f1, f2⟩ := hi
    have := hmul y hy
    omega) hl.seg⟩
theorem startR (k : RC C w r p d s L is mk) (x : Int) (hx : within s x 40 → In64 x) (hi : I64 x) (hlen : L.length < 1000000) (hmul : ∀ y ∈ L, y % 64 = 0) : Calls Try.prog 43 #[(.pointer (some ⟨d, 0, none⟩)), (.pointer (some ⟨p, 0, none⟩)), (.int .i64 x)] w (ZNowR C w r p d (startZ s L is mk x) (.int .i64 (startZ s L is mk x).x)) := by
  unfold startZ
  cases is
  · rw [if_neg (by decide)]
    by_cases hw : within s x 40
    · rw [if_neg fun q => q hw]
      by_cases hm : x ∈ L
      · rw [if_pos hm]
        exact (rstart_twice k x hi hw hm).mono fun e w' ⟨h1, h2⟩ => ⟨h1, k.fresh h2, h2.mono fun _ _ h => h.elim⟩
      · rw [if_neg hm]
        by_cases hL : L = []
        · rw [if_pos hL]
          subst hL
          exact (rstart_none k x hi hw).mono fun e w' ⟨h1, h2⟩ => ⟨h1, k.fresh h2, h2.mono fun _ _ h => h.elim⟩
        · rw [if_neg hL]
          obtain ⟨t1, t2⟩ := tail_mem hL
          have x64 := (hx hw).1
          exact rstart_ok k x hi hw hm t1 (List.length_pos_iff.2 hL) hlen (keyed_li k.li hmul x64 hw) fun _ _ y hy => chunk_apart (hmul y hy) x64 fun e => hm (e ▸ hy)
    · rw [if_pos hw]
      exact (rstart_range k x hi hw).mono fun e w' ⟨h1, h2⟩ => ⟨h1, k.fresh h2, h2.mono fun _ _ h => h.elim⟩
  · exact (rstart_walks k x hi).mono fun e w' ⟨h1, h2⟩ => ⟨h1, k.fresh h2, h2.mono fun _ _ h => h.elim⟩
/-! ### what the queue's own acts come to -/
def pushZ (s : St) (L : List Int) (is : Bool) (mk x : Int) : Z := ⟨(pushed s L x).1, (pushed s L x).2.1, is, mk, (pushed s L x).2.2, false⟩
def remZ (s : St) (L : List Int) (is : Bool) (mk x : Int) : Z := ⟨(removed s L x).1, (removed s L x).2.1, is, mk, (removed s L x).2.2, false⟩
theorem pushC (k : CA B w0 w a h cb s L is mk) {x : Int} (hx : Chunk x) (hi : I64 x) : Calls Try.prog 16 #[(.pointer (some ⟨h.q, 0, none⟩)), (.int .i64 x)] w (ZNow B w0 w a h cb (pushZ s L is mk x) (.int .i64 (pushZ s L is mk x).x)) :=
  (k.q.push hx hi).mono fun e w1 ⟨h1, h2, h3⟩ => ⟨h1, k.opQ h2 h3, h3.mono fun _ _ h => .inl h⟩
theorem remC (k : CA B w0 w a h cb s L is mk) (x : Int) : Calls Try.prog 15 #[(.pointer (some ⟨h.q, 0, none⟩)), (.int .i64 x)] w (ZNow B w0 w a h cb (remZ s L is mk x) (.int .i64 (remZ s L is mk x).x)) :=
  (k.q.remove x).mono fun e w1 ⟨h1, h2, h3⟩ => ⟨h1, k.opQ h2 h3, h3.mono fun _ _ h => .inl h⟩
theorem pushR (k : RC C w r p d s L is mk) {x : Int} (hi : I64 x) (hm : L.length < 1000000) (hap : within s x 40 → x ∉ L → ∀ y ∈ L, ArenaPure.Apart y x) : Calls Try.prog 27 #[(.pointer (some ⟨p, 0, none⟩)), (.int .i64 x)] w (ZNowR C w r p d (pushZ s L is mk x) (.int .i64 (pushZ s L is mk x).x)) := k.push hi hm hap
theorem remR (k : RC C w r p d s L is mk) {x : Int} (hi : I64 x) : Calls Try.prog 28 #[(.pointer (some ⟨p, 0, none⟩)), (.int .i64 x)] w (ZNowR C w r p d (remZ s L is mk x) (.int .i64 (remZ s L is mk x).x)) := k.remove hi
/-- both walks, alike -/
def Alike (B : Nat) (w0 w : World) (a : Ar) (r : Ra) (h : Qh) (p C cb d : Nat) (s : St) (L : List Int) (is : Bool) (mk : Int) : Prop :=
  CR B w0 w a r h p C cb d s L is mk s L is mk ∧ (is = true → In64 mk)
theorem Alike.fresh (k : Alike B w0 w a r h p C cb d s L is mk) (hc : Chg (fun _ => False) w w') : Alike B w0 w' a r h p C cb d s L is mk := ⟨k.1.fresh hc, k.2⟩
theorem Alike.low (k : Alike B w0 w a r h p C cb d s L is mk) : ∀ x, C2 a h cb x → B ≤ x := fun x hx => by
  rcases hx with (hx | rfl | rfl) | rfl
  · exact k.1.c.q.here.low.2.2 x hx
  · exact k.1.c.q.low.1
  · exact k.1.c.q.low.2
  · exact k.1.c.low
theorem Alike.mult (k : Alike B w0 w a r h p C cb d s L is mk) : ∀ y ∈ L, y % 64 = 0 := k.1.c.q.mult
theorem Alike.nodup (k : Alike B w0 w a r h p C cb d s L is mk) : L.Nodup := k.1.c.nodup
theorem markOf_i64 {n : Int} (h : I64 n) : I64 (markOf n) := by
  unfold markOf I64 at *
  split <;> omega
theorem mark_in {s : St} (ho : s.own = [1, 1, 1, -1]) (n : Int) (h : within s (markOf n) 40) : In64 (markOf n) := (mark_ok n).resolve_right fun q => mark_out ho q h
theorem Alike.two (k : Alike B w0 w a r h p C cb d s L is mk) : Two B w0 w a r s s :=
  ⟨k.1.c.q.here, k.1.rc.q.ref, ⟨(k.1.sepr _ (.inl rfl)).1, (k.1.sepr _ (.inr (.inl (.inl (.inl rfl))))).1, (k.1.sepr _ (.inr (.inl (.inl (.inr rfl))))).1⟩, fun x hx => by
    have := k.1.sepr x (by
      rcases hx with e | e | e
      · exact .inl e
      · exact .inr (.inl (.inl (.inl e)))
      · exact .inr (.inl (.inl (.inr e))))
    exact ⟨this.2.1, this.2.2.1, this.2.2.2.1⟩⟩
end Go.Proofs.Ytfhffffdhlofgaa.Crawl

/- The walk of chapter 14's CrawlDoes. -/
namespace Go.Proofs.Ytfhffffdhlofgaa.Crawl
open Go Go.RowKit Go.Proofs.Ytfhffffdhlofgaa.Mem Go.Proofs.Ytfhffffdhlofgaa.CodecPure Go.Proofs.Ytfhffffdhlofgaa.ArenaPure Go.Proofs.Ytfhffffdhlofgaa.Codec Go.Proofs.Ytfhffffdhlofgaa.Arena Go.Proofs.Ytfhffffdhlofgaa.Item Go.Proofs.Ytfhffffdhlofgaa.Links
set_option linter.unusedVariables false
set_option maxRecDepth 100000
variable {B C : Nat} {w0 w w' : World} {a : Ar} {r : Ra} {h : Qh} {p cb d : Nat} {s s1 s2 : St} {L L1 L2 : List Int} {is i1 i2 : Bool} {mk m1 m2 : Int}
set_option maxHeartbeats 1000000 in
theorem does_walk (A : Option Addr) (c : Nat) (l : List (List Int)) (w : World) (hl : SRow w [.i64, .i64, .i64] A c l) :
    Calls Try.prog 11 #[.slice A l.length c] w fun e w' => e = .returned (.bool true) ∧ Below w.heap.size w w' := by
  have hlm : l.length ≤ 9223372036854775807 := Nat.le_trans hl.cap hl.most
  replace hl := Lib.hid hl
  obtain ⟨n, hn⟩ : ∃ n, l.length = n := ⟨_, rfl⟩
  rw [hn] at hlm ⊢
  replace hn := Lib.hid hn
  go_enter Try.func11, Try.ntmps11
  go_wp2_with fail
  refine (laid_calls w).mono ?_
  rintro e w1 ⟨a, r, rfl, T⟩
  replace T := Lib.hid T
  go_wp2_with fail
  refine (QA.laid T.out).mono ?_
  rintro e w2 ⟨h, rfl, H0, hc, h1, h2⟩
  have K0 := Lib.hid (QR.start T.out H0 hc h1 h2)
  have P0 := Lib.hid (heap_alloc_at w2 (.cells #[(.pointer (some ⟨r.g, 0, none⟩)), .slice none 0 0] 50))
  clear H0 hc h1 h2 T
  go_wp2_with fail
  refine (CA.new K0.out.q).mono ?_
  rintro e w4 ⟨cb, rfl, HC, hc, h1⟩
  have K1 := Lib.hid (CR.start K0.out (by simp) P0.out HC hc h1 HC.q.here.chg.size)
  clear K0 P0 HC hc h1
  obtain ⟨p, hp⟩ : ∃ p, w2.heap.size = p := ⟨_, rfl⟩
  rw [hp] at K1
  go_wp2_with fail
  obtain ⟨d, hd⟩ : ∃ d, w4.heap.size = d := ⟨_, rfl⟩
  rw [hd] at K1 ⊢
  clear hp hd
  have A1 : Hid (Alike w.heap.size w (w4.alloc (.cells #[(.pointer (some ⟨r.g, 0, none⟩)), .bool false, .pointer none, .int .i64 0] 63)) a r h p (d + 1) cb d (laidS 30) [] false 0) := ⟨K1.out, fun e => by cases e⟩
  clear K1
  generalize w4.alloc (.cells #[(.pointer (some ⟨r.g, 0, none⟩)), .bool false, .pointer none, .int .i64 0] 63) = w5 at A1 ⊢
  go_loopg [10] 120 (fun g i wr => ∃ (k : Nat) (s : St) (L : List Int) (is : Bool) (mk : Int), i = .int .i64 k ∧ g = 120 - k ∧ k ≤ 120 ∧ k ≤ n ∧ L.length ≤ k ∧ Hid (Alike w.heap.size w wr a r h p (d + 1) cb d s L is mk))
  case atStart => exact ⟨0, _, [], _, _, rfl, rfl, by omega, by omega, by simp, A1.out⟩
  case round =>
    clear A1
    obtain ⟨k, s, L, is, mk, rfl, hg, hk, hkn, hL, H1⟩ := hrel
    obtain ⟨wo, rfl⟩ : ∃ wo : World, wo = wr := ⟨_, rfl⟩
    replace hg := Lib.hid hg
    replace hL := Lib.hid hL
    by_cases hlt : k < n ∧ k < 120
    · obtain ⟨h1, h2⟩ := hlt
      have h1' : (k : Int) < n := by omega
      have h2' : (k : Int) < 120 := by omega
      have SR := hl.out.chg H1.out.1.c.q.here.chg (Nat.le_refl _)
      obtain ⟨ad, rfl, d0, d1⟩ := SR.fields k (by rw [hn.out]; exact h1) (by decide)
      have f0 := d0 .i64 rfl
      have f1 := d1 0 .i64 rfl
      have f2 := d1 1 .i64 rfl
      simp only [List.length_cons, List.length_nil, Nat.reduceAdd, Nat.zero_add] at f0 f1 f2
      have i2 := SRow.wf_i64 hl.out k (by rw [hn.out]; exact h1) 2 (by decide)
      have bl : Hid ((ad.add (k * 3)).block < w.heap.size) := by
        obtain ⟨ad', e, c0, -⟩ := hl.out.fields k (by rw [hn.out]; exact h1) (by decide)
        cases e
        exact World.block_lt_of_cell? w _ (c0 .i64 rfl)
      have LC := Lib.hid (fun x (hx : C2 a h cb x) => H1.out.low x hx)
      have LR := Lib.hid (fun x (hx : RB r p d x) => (H1.out.1.sepr x (.inr hx)).1)
      clear d0 d1 SR
      generalize (l.getD k []).getD 0 0 = kind at f0
      generalize (l.getD k []).getD 1 0 = x1 at f1
      generalize (l.getD k []).getD 2 0 = x2 at f2 i2
      obtain ⟨kk, hkk, q1, -⟩ := small x1 30 (by decide)
      have PC : Hid (∀ W, Calls Try.prog 37 #[(.int .i64 x1)] W fun e w' => e = .returned ((.int .i64 (64 * (kk : Int)))) ∧ w' = W) := fun W => place10_calls x1 W kk hkk q1
      clear q1
      have xc : Hid (Chunk (64 * (kk : Int)) ∧ I64 (64 * (kk : Int))) := ⟨.inl (by omega), by unfold I64; omega⟩
      clear hkk
      generalize 64 * (kk : Int) = x at PC xc
      go_wp2_with fail
      refine (PC.out wo).mono ?_
      rintro e w5 ⟨rfl, rfl⟩
      clear PC
      have lm : L.length < 1000000 := by have := hL.out; omega
      have MU := Lib.hid H1.out.mult
      have ND := Lib.hid H1.out.nodup
      have AP := Lib.hid (H1.out.1.c.q.ap xc.out.1)
      have OW := Lib.hid H1.out.1.c.q.own
      go_upto_block 2 with fail
      go_cut [] (fun wx => ∃ (s2 : St) (L2 : List Int) (is2 : Bool) (mk2 : Int), Hid (L2.length ≤ k + 1) ∧ Hid (Alike w.heap.size w wx a r h p (d + 1) cb d s2 L2 is2 mk2))
      case first =>
        have ACT : Hid (∀ (z : Z) (W1 W2 : World), CA w.heap.size w W1 a h cb z.s z.L z.is z.mk → Chg (C2 a h cb) w5 W1 → RC (d + 1) W2 r p d z.s z.L z.is z.mk → Chg (RB r p d) W1 W2 → (z.is = true → In64 z.mk) → Alike w.heap.size w W2 a r h p (d + 1) cb d z.s z.L z.is z.mk) :=
          fun z W1 W2 h1 h2 h3 h4 h5 => ⟨(H1.out.1.opC h1 h2).opR h3 h4, h5⟩
        have MID : Hid (∀ (z : Z) (W1 : World), CA w.heap.size w W1 a h cb z.s z.L z.is z.mk → Chg (C2 a h cb) w5 W1 → RC (d + 1) W1 r p d s L is mk) := fun z W1 h1 h2 => (H1.out.1.opC h1 h2).rc
        have MK := Lib.hid H1.out.2
        by_cases e0 : kind = 0
        · have t0 : (kind == 0) = true := by rw [e0]; rfl
          clear e0
          have P := Lib.hid (pushC H1.out.1.c xc.out.1 xc.out.2)
          have RP := Lib.hid (fun W (k : RC (d + 1) W r p d s L is mk) => pushR k xc.out.2 lm AP.out)
          have ZL : Hid ((pushZ s L is mk x).L.length ≤ k + 1) := Nat.le_trans (pushed_len s L x) (by have := hL.out; omega)
          have ZM : Hid ((pushZ s L is mk x).is = true → In64 (pushZ s L is mk x).mk) := MK.out
          generalize pushZ s L is mk x = z at P RP ZL ZM
          generalize z.x = zx at P RP
          clear AP MU ND H1 lm hl hkn hg
          go_wp2_with fail
          refine P.out.mono ?_
          rintro e w6 ⟨rfl, hq, hc⟩
          have K6 := Lib.hid (MID.out z w6 hq hc)
          have Q6 := Lib.hid hq
          have C6 := Lib.hid hc
          clear hq hc P
          go_wp2_with fail
          refine (RP.out w6 K6.out).mono ?_
          rintro e w7 ⟨rfl, hr, hc⟩
          have H7 := Lib.hid (ACT.out z w6 w7 Q6.out C6.out hr hc ZM.out)
          clear hr hc RP Q6 C6 K6 f0 f1 f2
          go_wp2_with fail
          go_meet
          exact ⟨_, _, _, _, ZL.out, H7.out⟩
        · have t0 : (kind == 0) = false := by rw [beq_eq_false_iff_ne]; exact e0
          clear e0
          by_cases e1 : kind = 1
          · have t1 : (kind == 1) = true := by rw [e1]; rfl
            clear e1
            have P := Lib.hid (remC H1.out.1.c x)
            have RP := Lib.hid (fun W (k : RC (d + 1) W r p d s L is mk) => remR k xc.out.2)
            have ZL : Hid ((remZ s L is mk x).L.length ≤ k + 1) := Nat.le_trans (removed_len s L x) (by have := hL.out; omega)
            have ZM : Hid ((remZ s L is mk x).is = true → In64 (remZ s L is mk x).mk) := MK.out
            generalize remZ s L is mk x = z at P RP ZL ZM
            generalize z.x = zx at P RP
            clear AP MU ND H1 lm hl hkn hg
            go_wp2_with fail
            refine P.out.mono ?_
            rintro e w6 ⟨rfl, hq, hc⟩
            have K6 := Lib.hid (MID.out z w6 hq hc)
            have Q6 := Lib.hid hq
            have C6 := Lib.hid hc
            clear hq hc P
            go_wp2_with fail
            refine (RP.out w6 K6.out).mono ?_
            rintro e w7 ⟨rfl, hr, hc⟩
            have H7 := Lib.hid (ACT.out z w6 w7 Q6.out C6.out hr hc ZM.out)
            clear hr hc RP Q6 C6 K6 f0 f1 f2
            go_wp2_with fail
            go_meet
            exact ⟨_, _, _, _, ZL.out, H7.out⟩
          · have t1 : (kind == 1) = false := by rw [beq_eq_false_iff_ne]; exact e1
            clear e1
            by_cases e2 : kind = 2
            · have t2 : (kind == 2) = true := by rw [e2]; rfl
              clear e2
              have MC := Lib.hid (fun W => mark_calls x2 W)
              have mi := Lib.hid (markOf_i64 i2)
              have mn := Lib.hid (fun h => mark_in OW.out x2 h)
              generalize markOf x2 = m at MC mi mn
              have P := Lib.hid (fun W (k : CA w.heap.size w W a h cb s L is mk) => startC k m mn.out mi.out)
              have RP := Lib.hid (fun W (k : RC (d + 1) W r p d s L is mk) => startR k m mn.out mi.out lm MU.out)
              have ZL : Hid ((startZ s L is mk m).L.length ≤ k + 1) := Nat.le_trans (startZ_len s L is mk m) (by have := hL.out; omega)
              have ZM : Hid ((startZ s L is mk m).is = true → In64 (startZ s L is mk m).mk) := startZ_mark s L is mk m mn.out MK.out
              have HA := Lib.hid (H1.out.fresh (Chg.drew _ w5))
              generalize startZ s L is mk m = z at P RP ZL ZM
              generalize z.x = zx at P RP
              have f2d : (World.drew w5).cell? ⟨(ad.add (k * 3)).block, (ad.add (k * 3)).off + 2, none⟩ = some ((.int .i64 x2)) := f2
              have CD : Hid (Chg (C2 a h cb) w5 (World.drew w5)) := Chg.drew _ _
              clear AP MU ND H1 lm hl hkn hg mi mn
              go_wp2_with fail
              go_region_held3 (fun w' => w'.cell? ⟨(ad.add (k * 3)).block, (ad.add (k * 3)).off + 2, none⟩ = some ((.int .i64 x2))) (go_keep)
                (first
                  | (go_at_call 42; refine (MC.out _).mono ?_; rintro e w8 ⟨rfl, rfl⟩; skip)
                  | (go_at_call 38; refine (P.out _ HA.out.1.c).mono ?_; rintro e w8 ⟨rfl, hq, hc⟩; have C8 := Lib.hid (CD.out.trans hc); have Q8 := Lib.hid hq; have K8 := Lib.hid (MID.out z w8 hq C8.out); have g8 : w8.cell? ⟨(ad.add (k * 3)).block, (ad.add (k * 3)).off + 2, none⟩ = some ((.int .i64 x2)) := hc.cell f2d (fun hx => Nat.lt_irrefl _ (Nat.lt_of_lt_of_le bl.out (LC.out _ hx))); clear hq hc; skip)
                  | (go_at_call 43; refine (RP.out _ K8.out).mono ?_; rintro e w9 ⟨rfl, hr, hc⟩; have H9 := Lib.hid (ACT.out z w8 w9 Q8.out C8.out hr hc ZM.out); have g9 : w9.cell? ⟨(ad.add (k * 3)).block, (ad.add (k * 3)).off + 2, none⟩ = some ((.int .i64 x2)) := hc.cell g8 (fun hx => Nat.lt_irrefl _ (Nat.lt_of_lt_of_le bl.out (LR.out _ hx))); clear hr hc; skip))
              clear f0 f1 f2 f2d g8 g9
              go_wp2_with fail
              go_meet
              exact ⟨_, _, _, _, ZL.out, H9.out⟩
            · have t2 : (kind == 2) = false := by rw [beq_eq_false_iff_ne]; exact e2
              clear e2
              by_cases e3 : kind = 3
              · have t3 : (kind == 3) = true := by rw [e3]; rfl
                clear e3
                have P := Lib.hid (stepC H1.out.1.c MK.out)
                have RP := Lib.hid (fun W (k : RC (d + 1) W r p d s L is mk) => stepR k ND.out MK.out lm MU.out)
                have ZL : Hid ((stepZ s L is mk).L.length ≤ k + 1) := Nat.le_trans (stepZ_len s L is mk) (by have := hL.out; omega)
                have ZM : Hid ((stepZ s L is mk).is = true → In64 (stepZ s L is mk).mk) := fun e => by rw [(stepZ_mark s L is mk).1]; exact MK.out ((stepZ_mark s L is mk).2 e)
                generalize stepZ s L is mk = z at P RP ZL ZM
                generalize z.x = zx at P RP
                generalize z.b = zb at P RP
                clear AP MU ND H1 lm hl hkn hg
                go_wp2_with fail
                refine P.out.mono ?_
                rintro e w6 ⟨rfl, hq, hc⟩
                have K6 := Lib.hid (MID.out z w6 hq hc)
                have Q6 := Lib.hid hq
                have C6 := Lib.hid hc
                clear hq hc P
                go_wp2_with fail
                refine (RP.out w6 K6.out).mono ?_
                rintro e w7 ⟨rfl, hr, hc⟩
                have H7 := Lib.hid (ACT.out z w6 w7 Q6.out C6.out hr hc ZM.out)
                clear hr hc RP Q6 C6 K6 f0 f1 f2
                go_wp2_with fail
                go_meet
                exact ⟨_, _, _, _, ZL.out, H7.out⟩
              · have t3 : (kind == 3) = false := by rw [beq_eq_false_iff_ne]; exact e3
                clear e3
                have P := Lib.hid (stopC H1.out.1.c)
                have RP := Lib.hid (fun W (k : RC (d + 1) W r p d s L is mk) => stopR k MK.out)
                have ZL : Hid ((stopZ s L is mk).L.length ≤ k + 1) := Nat.le_trans (stopZ_len s L is mk) (by have := hL.out; omega)
                have ZM : Hid ((stopZ s L is mk).is = true → In64 (stopZ s L is mk).mk) := fun e => by rw [(stopZ_mark s L is mk).1]; exact MK.out ((stopZ_mark s L is mk).2 e)
                generalize stopZ s L is mk = z at P RP ZL ZM
                generalize z.x = zx at P RP
                generalize z.b = zb at P RP
                clear AP MU ND H1 lm hl hkn hg
                go_wp2_with fail
                refine P.out.mono ?_
                rintro e w6 ⟨rfl, hq, hc⟩
                have K6 := Lib.hid (MID.out z w6 hq hc)
                have Q6 := Lib.hid hq
                have C6 := Lib.hid hc
                clear hq hc P
                go_wp2_with fail
                refine (RP.out w6 K6.out).mono ?_
                rintro e w7 ⟨rfl, hr, hc⟩
                have H7 := Lib.hid (ACT.out z w6 w7 Q6.out C6.out hr hc ZM.out)
                clear hr hc RP Q6 C6 K6 f0 f1 f2
                go_wp2_with fail
                go_meet
                exact ⟨_, _, _, _, ZL.out, H7.out⟩
      case rest =>
        obtain ⟨s2, L2, is2, mk2, HL2, H8⟩ := hcut
        clear f0 f1 f2 MU ND AP OW LC LR bl xc H1
        have W1 := Lib.hid (fun W (k : CA w.heap.size w W a h cb s2 L2 is2 mk2) => walks_calls k)
        obtain ⟨m, hm⟩ : ∃ m, L2.length = m := ⟨_, rfl⟩
        have hm60 : m ≤ 1000000 := by have := HL2.out; omega
        obtain ⟨A2, c2, -, g7, -, o7⟩ := H8.out.1.rc.q.open
        rw [hm] at g7
        replace hm := Lib.hid hm
        have g8 := H8.out.1.rc.c1
        have S7 := Lib.hid o7.sl
        have H11d := Lib.hid (H8.out.fresh (Chg.drew _ _))
        have g7d := (Chg.drew (fun _ => False) _).cell g7 id
        have g8d := (Chg.drew (fun _ => False) _).cell g8 id
        have S7d := Lib.hid (S7.out.chg (Chg.drew (fun _ => False) _) fun _ _ => id)
        clear o7
        go_wp2_with fail
        go_region_held3 (fun w' => w'.cell? ⟨p, 1, none⟩ = some (.slice A2 m c2) ∧ w'.cell? ⟨d, 1, none⟩ = some (.bool is2)) (go_keep)
          (first
            | (go_at_call 41; refine (W1.out _ H11d.out.1.c).mono ?_; rintro e w8 ⟨rfl, rfl⟩; skip)
            | (go_at_call 19; refine (H11d.out.1.c.q.listE hm.out hm60).mono ?_; rintro e w9 ⟨A3, c3, rfl, O9, -, hc⟩; have H13 := Lib.hid (H11d.out.fresh hc); have g9 := hc.cell g7d id; have k9 := hc.cell g8d id; have S9 := Lib.hid (S7d.out.chg hc fun _ _ => id); have SO := Lib.hid O9.sl; have Z9 := same06_calls (c := c3) (d := c2) SO.out S9.out (by rw [hm.out]; exact hm60); rw [hm.out] at Z9; replace Z9 := Lib.hid Z9; clear hc O9; skip)
            | (go_at_call 21; refine Z9.out.mono ?_; rintro e w10 ⟨rfl, hd⟩; have H14 := Lib.hid (H13.out.fresh (hd.chg _)); have g10 := (hd.chg (fun _ => False)).cell g9 id; have k10 := (hd.chg (fun _ => False)).cell k9 id; clear hd; skip))
        clear g7 g8 g7d g8d g9 g10 k9 k10
        go_wp2_with fail
        go_roundg (120 - (k + 1))
        case measure => have := hg.out; omega
        case rel => exact ⟨k + 1, s2, L2, is2, mk2, rfl, rfl, by omega, by omega, HL2.out, H14.out⟩
    · have hend : ((n : Int) ≤ k) ∨ ((k : Int) < n ∧ ¬ (k : Int) < 120) := by omega
      have SC := Lib.hid (same_calls H1.out.two)
      clear hg hlt hL hl H1
      rcases hend with he | ⟨he, he2⟩ <;>
      (go_wp2_with fail
       refine SC.out.mono ?_
       rintro e w5 ⟨rfl, ht⟩
       have F := Lib.hid (ht.here.below (Nat.le_refl _))
       clear ht SC
       go_wp2_with fail
       go_ret
       exact ⟨rfl, F.out⟩)
end Go.Proofs.Ytfhffffdhlofgaa.Crawl

