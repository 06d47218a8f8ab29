/- The program's queue: Push, Insert, Remove, Tail, Before, Has, Len, New. -/
import Derived.Test.YtfhffffdhlofgaaLinks2
namespace Go.Proofs.Ytfhffffdhlofgaa.Links
open Go Go.RowKit Go.Proofs.Ytfhffffdhlofgaa.Mem Go.Proofs.Ytfhffffdhlofgaa.CodecPure Go.Proofs.Ytfhffffdhlofgaa.ArenaPure Go.Proofs.Ytfhffffdhlofgaa.Codec Go.Proofs.Ytfhffffdhlofgaa.Arena Go.Proofs.Ytfhffffdhlofgaa.Item
set_option linter.unusedVariables false
set_option maxRecDepth 100000
variable {w w' : World} {a : Ar} {h : Qh} {s : St} {L : List Int}
/-! ### plain words on lists -/
/-- x laid in right behind b -/
def ins (b x : Int) : List Int → List Int
  | [] => []
  | y :: ys => if y = b then y :: x :: ys else y :: ins b x ys
/-- what comes behind b -/
def nextOf (b : Int) : List Int → Int
  | [] => -1
  | y :: ys => if y = b then ys.headD (-1) else nextOf b ys
/-- what comes ahead of b -/
def prevL (b : Int) (p : Int) : List Int → Int
  | [] => -1
  | y :: ys => if y = b then p else prevL b y ys
theorem split_at (b : Int) : ∀ (L : List Int), b ∈ L → ∃ A C, L = A ++ b :: C ∧ b ∉ A ∧ (∀ x, ins b x L = A ++ b :: x :: C) ∧ nextOf b L = C.headD (-1) ∧ (∀ p, prevL b p L = A.getLastD p) ∧ L.erase b = A ++ C := by
  intro L
  induction L with
  | nil => intro h; simp at h
  | cons y ys ih =>
    intro h
    by_cases e : y = b
    · subst e
      exact ⟨[], ys, rfl, by simp, fun x => by simp [ins], by simp [nextOf], fun p => by simp [prevL], by simp⟩
    · have hm : b ∈ ys := by
        rcases List.mem_cons.1 h with h | h
        · exact absurd h.symm e
        · exact h
      obtain ⟨A, C, h1, h2, h3, h4, h5, h6⟩ := ih hm
      refine ⟨y :: A, C, by rw [h1]; rfl, ?_, fun x => by simp [ins, e, h3], by simp [nextOf, e, h4], fun p => ?_, ?_⟩
      · simp only [List.mem_cons, not_or]
        exact ⟨fun q => e q.symm, h2⟩
      · simp only [prevL, if_neg e, h5]
        exact List.getLastD_cons.symm
      · rw [List.erase_cons_tail (by simpa using e), h6]; rfl
/-! ### Push, Insert, Remove -/
def pushed (s : St) (L : List Int) (x : Int) : St × List Int × Int :=
  if within s x 40 then if x ∈ L then (s, L, 4) else (putS s (-1) x (L.headD (-1)), x :: L, 0) else (s, L, 1)
def insTail (s : St) (L : List Int) (b x : Int) : St × List Int × Int :=
  if within s x 40 then if x ∈ L then (s, L, 4) else (putS s b x (nextOf b L), ins b x L, 0) else (s, L, 1)
def inserted (s : St) (L : List Int) (b x : Int) : St × List Int × Int :=
  if b ∈ L then insTail s L b x else (s, L, 3)
def removed (s : St) (L : List Int) (x : Int) : St × List Int × Int :=
  if x ∈ L then (delS s (prevL x (-1) L) x (nextOf x L), L.erase x, 0) else (s, L, 3)
theorem push_calls (k : QLies w a h s L) (x : Int) (hx : I64 x) (hap : within s x 40 → x ∉ L → ∀ y ∈ L, ArenaPure.Apart y x) :
    Calls Try.prog 16 #[(.pointer (some ⟨h.q, 0, none⟩)), (.int .i64 x)] w (Qok w a h (pushed s L x).1 (pushed s L x).2.1 (pushed s L x).2.2) := by
  have P : Calls Try.prog 54 #[(.pointer (some ⟨h.q, 0, none⟩)), (.int .i64 (-1)), (.int .i64 x), (.int .i64 (L.headD (-1)))] w (Qok w a h (pushed s L x).1 (pushed s L x).2.1 (pushed s L x).2.2) := by
    unfold pushed
    by_cases hw : within s x 40
    · rw [if_pos hw]
      by_cases hm : x ∈ L
      · rw [if_pos hm]; exact put_twice k _ _ _ hm
      · rw [if_neg hm]
        exact put_ok (A := []) (C := L) k x hw (hap hw hm)
    · rw [if_neg hw]; exact put_no k _ _ _ hx hw
  have c1 := k.c1
  replace P := Lib.hid P
  generalize (pushed s L x).1 = s' at P ⊢
  generalize (pushed s L x).2.1 = L' at P ⊢
  generalize (pushed s L x).2.2 = er at P ⊢
  generalize L.headD (-1) = f at P c1
  clear k hap hx
  go_enter Try.func16, Try.ntmps16
  go_wp2_with fail
  refine P.out.mono ?_
  rintro e w1 ⟨rfl, k1, k2⟩
  have R : Hid (Qok w a h s' L' er (.returned (.int .i64 er)) w1) := ⟨rfl, k1, k2⟩
  clear k1 k2
  go_wp2
  go_ret
  exact R.out
theorem insert_calls (k : QLies w a h s L) (b x : Int) (hb : I64 b) (hx : I64 x) (hap : within s x 40 → x ∉ L → ∀ y ∈ L, ArenaPure.Apart y x) :
    Calls Try.prog 20 #[(.pointer (some ⟨h.q, 0, none⟩)), (.int .i64 b), (.int .i64 x)] w (Qok w a h (inserted s L b x).1 (inserted s L b x).2.1 (inserted s L b x).2.2) := by
  unfold inserted
  have c3 := k.c3
  have lk := k.look b
  by_cases hm : b ∈ L
  · rw [if_pos hm]
    rw [decide_eq_true hm] at lk
    obtain ⟨A, C, hL, hA, h3, h4, h5, h6⟩ := split_at b L hm
    subst hL
    have fl := k.li.fields
    have hw := k.li.hdr b hm
    have GC := Lib.hid (get_calls k.lies b 2 hb)
    rw [itemGet2 hw, fl.2] at GC
    have e0 : (A ++ b :: C) = (A ++ [b]) ++ C := by simp
    have el : (A ++ [b]).getLastD (-1) = b := by simp
    have P : Hid (∀ W, QLies W a h s (A ++ b :: C) → Calls Try.prog 54 #[(.pointer (some ⟨h.q, 0, none⟩)), (.int .i64 b), (.int .i64 x), (.int .i64 (C.headD (-1)))] W (Qok W a h (insTail s (A ++ b :: C) b x).1 (insTail s (A ++ b :: C) b x).2.1 (insTail s (A ++ b :: C) b x).2.2)) := fun W kW => by
      unfold insTail
      by_cases hw2 : within s x 40
      · rw [if_pos hw2]
        by_cases hm2 : x ∈ A ++ b :: C
        · rw [if_pos hm2]; exact put_twice kW _ _ _ hm2
        · rw [if_neg hm2, h3, h4]
          have kW' := kW
          rw [e0] at kW'
          have := put_ok (A := A ++ [b]) (C := C) kW' x hw2 (by rw [← e0]; exact hap hw2 hm2)
          rw [el, List.append_assoc] at this
          exact this
      · rw [if_neg hw2]; exact put_no kW _ _ _ hx hw2
    have K := Lib.hid k
    generalize insTail s (A ++ b :: C) b x = q at P ⊢
    generalize C.headD (-1) = n at P GC
    have c0 := k.c0
    clear k hap hx hm hA h3 h4 h5 h6 fl hw e0 el hb
    generalize A ++ b :: C = L at *
    go_enter Try.func20, Try.ntmps20
    go_wp2_with fail
    refine GC.out.mono ?_
    rintro e w1 ⟨rfl, k1⟩
    have P1 := Lib.hid (P.out w1 (K.out.fresh k1))
    have C1 : Hid (Chg (Q2 a h) w w1) := k1.mono fun _ _ h => h.elim
    clear k1 lk c0 c3
    go_wp2_with fail
    refine P1.out.mono ?_
    rintro e w2 ⟨rfl, l2, k2⟩
    have R : Hid (Qok w a h q.1 q.2.1 q.2.2 (.returned (.int .i64 q.2.2)) w2) := ⟨rfl, l2, C1.out.trans k2⟩
    clear l2 k2
    go_wp2
    go_ret
    exact R.out
  · rw [if_neg hm]
    rw [decide_eq_false hm] at lk
    have R : Hid (Qok w a h s L 3 (.returned (.int .i64 3)) w) := ⟨rfl, k, Chg.refl _ _⟩
    clear k hap hx hm hb
    go_enter Try.func20, Try.ntmps20
    go_wp2
    go_ret
    exact R.out
theorem remove_calls (k : QLies w a h s L) (x : Int) : Calls Try.prog 15 #[(.pointer (some ⟨h.q, 0, none⟩)), (.int .i64 x)] w (Qok w a h (removed s L x).1 (removed s L x).2.1 (removed s L x).2.2) := by
  unfold removed
  have c3 := k.c3
  have lk := k.look x
  by_cases hm : x ∈ L
  · rw [if_pos hm]
    rw [decide_eq_true hm] at lk
    obtain ⟨A, C, hL, hA, h3, h4, h5, h6⟩ := split_at x L hm
    rw [h4, h5, h6]
    subst hL
    have hs := k.li.ok
    have fl := k.li.fields
    have hw := k.li.hdr x hm
    have px := hdr_pl hs hw
    have e0 : (A ++ x :: C) = (A ++ [x]) ++ C := by simp
    have hp := last_ends (A := A) k.li
    have hn : C.headD (-1) = -1 ∨ within s (C.headD (-1)) 40 := head_ends (A := A ++ [x]) (by rw [← e0]; exact k.li)
    have hpn := last_none (A := A) k.li
    have hnn : C.headD (-1) = -1 ↔ C = [] := head_none (A := A ++ [x]) (by rw [← e0]; exact k.li)
    obtain ⟨L1, K1, -, -⟩ := del_seg k.li
    have E := join_del hp hw hn
    have o1 := j2_own hp hn
    have GC1 := Lib.hid (fun (W : World) (hl : Lies W a s) => get_calls hl x 1 (pl_i64 px.1))
    have GC2 := Lib.hid (fun (W : World) (hl : Lies W a s) => get_calls hl x 2 (pl_i64 px.1))
    rw [itemGet1 hw, fl.1] at GC1
    rw [itemGet2 hw, fl.2] at GC2
    have J := fun (W : World) (hl : Lies W a s) (hb : W.heap[h.q]? = some (.cells (qcells a h ((A ++ x :: C).headD (-1)) ((A ++ x :: C).getLastD (-1))).toArray 77 (0, 0))) => join_calls hl k.out _ _ (A.getLastD (-1)) (C.headD (-1)) hb (ends_i64 hs hp) (ends_i64 hs hn)
    have EF : jf ((A ++ x :: C).headD (-1)) (A.getLastD (-1)) (C.headD (-1)) = (A ++ C).headD (-1) := by
      unfold jf
      cases A with
      | nil => rw [if_pos (hpn.2 rfl)]; rfl
      | cons y A' => rw [if_neg (fun e => by have := hpn.1 e; cases this)]; rfl
    have EL : jl ((A ++ x :: C).getLastD (-1)) (A.getLastD (-1)) (C.headD (-1)) = (A ++ C).getLastD (-1) := by
      unfold jl
      cases C with
      | nil => rw [if_pos (hnn.2 rfl)]; simp
      | cons y C' => rw [if_neg (fun e => by have := hnn.1 e; cases this)]; simp
    rw [EF, EL] at J
    have J := Lib.hid J
    have S1 := Lib.hid (fun (W : World) (hl : Lies W a (j2 s (A.getLastD (-1)) (C.headD (-1)))) => set_calls hl x 1 (-1) (pl_i64 px.1) (by decide))
    have S2 := Lib.hid (fun (W : World) (hl : Lies W a (itemSet (j2 s (A.getLastD (-1)) (C.headD (-1))) x 1 (-1)).1) => set_calls hl x 2 (-1) (pl_i64 px.1) (by decide))
    rw [E] at S2
    have F : Hid (∀ W, Lies W a (delS s (A.getLastD (-1)) x (C.headD (-1))) → W.heap[h.q]? = some (.cells (qcells a h ((A ++ C).headD (-1)) ((A ++ C).getLastD (-1))).toArray 77 (0, 0)) → MSet W h.m ((A ++ x :: C).erase x) → Chg (Q2 a h) w W → Qok w a h (delS s (A.getLastD (-1)) x (C.headD (-1))) (A ++ C) 0 (.returned (.int .i64 0)) W) := fun W hl hb hm2 hc => ⟨rfl, ⟨hl, L1, hb, by rw [h6] at hm2; exact hm2, k.out⟩, hc⟩
    have c0 := k.c0
    have K := Lib.hid k
    have HM := Lib.hid hm
    generalize delS s (A.getLastD (-1)) x (C.headD (-1)) = s' at F S2 L1 K1 E ⊢
    generalize j2 s (A.getLastD (-1)) (C.headD (-1)) = sj at *
    generalize A.getLastD (-1) = p at *
    generalize C.headD (-1) = n at *
    clear k hm hA h3 h4 h5 h6 fl hw px e0 hp hn hpn hnn L1 K1 E o1 EF EL hs
    go_enter Try.func15, Try.ntmps15
    go_wp2_with fail
    refine (GC1.out w K.out.lies).mono ?_
    rintro e w1 ⟨rfl, k1⟩
    have K1 := Lib.hid (K.out.fresh k1)
    have C1 : Hid (Chg (Q2 a h) w w1) := k1.mono fun _ _ h => h.elim
    have d0 := K1.out.c0
    clear k1 lk c0 c3
    go_wp2_with fail
    refine (GC2.out w1 K1.out.lies).mono ?_
    rintro e w2 ⟨rfl, k2⟩
    have K2 := Lib.hid (K1.out.fresh k2)
    have C2 : Hid (Chg (Q2 a h) w w2) := C1.out.trans (k2.mono fun _ _ h => h.elim)
    clear k2 d0 GC1 GC2
    go_wp2_with fail
    refine (J.out w2 K2.out.lies K2.out.head).mono ?_
    rintro e w3 ⟨rfl, l3, b3, k3⟩
    have C3 : Hid (Chg (Q2 a h) w w3) := C2.out.trans (k3.mono fun i _ hi => hi.elim .inl fun e => .inr (.inl e))
    have M3 := Lib.hid (K2.out.set.chg k3 (fun e => e.elim K.out.out.m.2.2 fun e => K.out.out.qm e.symm))
    have d0 : w3.cell? ⟨h.q, 0, none⟩ = some (.pointer (some ⟨a.g, 0, none⟩)) := by rw [blk_cell b3]; rfl
    have SS1 := Lib.hid (S1.out w3 l3)
    have B3 := Lib.hid b3
    clear l3 b3 k3 J S1
    go_wp2_with fail
    refine SS1.out.mono ?_
    rintro e w4 ⟨rfl, l4, k4⟩
    have C4 : Hid (Chg (Q2 a h) w w4) := C3.out.trans (k4.mono fun i _ hi => .inl hi)
    have M4 := Lib.hid (M3.out.chg k4 K.out.out.m.2.2)
    have b4 := k4.keep B3.out K.out.out.q.2.2
    have e0 : w4.cell? ⟨h.q, 0, none⟩ = some (.pointer (some ⟨a.g, 0, none⟩)) := by rw [blk_cell b4]; rfl
    have SS2 := Lib.hid (S2.out w4 l4)
    have B4 := Lib.hid b4
    clear l4 b4 k4 S2 SS1 d0
    go_wp2_with fail
    refine SS2.out.mono ?_
    rintro e w5 ⟨rfl, l5, k5⟩
    have C5 : Hid (Chg (Q2 a h) w w5) := C4.out.trans (k5.mono fun i _ hi => .inl hi)
    have M5 := M4.out.chg k5 K.out.out.m.2.2
    have b5 := k5.keep B4.out K.out.out.q.2.2
    have g3 : w5.cell? ⟨h.q, 3, none⟩ = some (.map (some h.m)) := by rw [blk_cell b5]; rfl
    obtain ⟨w6, run6, M6, k6⟩ := M5.delete Try.underlying75 Try.underlying3 x HM.out 0 3
    have R := Lib.hid (F.out w6 (l5.chg k6 (fun e => K.out.out.m.1 e.symm) (fun e => K.out.out.m.2.1 e.symm) fun b hb e => K.out.out.m.2.2 (e ▸ hb)) (k6.keep b5 K.out.out.qm) M6 (C5.out.trans (k6.mono fun i _ e => .inr (.inr e))))
    clear l5 b5 k5 M5 M6 k6 e0 SS2
    go_wp2
    go_ret
    exact R.out
  · rw [if_neg hm]
    rw [decide_eq_false hm] at lk
    have R : Hid (Qok w a h s L 3 (.returned (.int .i64 3)) w) := ⟨rfl, k, Chg.refl _ _⟩
    clear k hm
    go_enter Try.func15, Try.ntmps15
    go_wp2
    go_ret
    exact R.out
/-! ### what only reads -/
theorem has_calls (k : QLies w a h s L) (x : Int) : Calls Try.prog 23 #[(.pointer (some ⟨h.q, 0, none⟩)), (.int .i64 x)] w fun e w' => e = .returned (.bool (decide (x ∈ L))) ∧ w = w' := by
  have c3 := k.c3
  have lk := k.look x
  generalize decide (x ∈ L) = b at lk ⊢
  clear k
  go_enter Try.func23, Try.ntmps23
  go_wp2
  go_ret
  exact ⟨rfl, rfl⟩
theorem len_calls (k : QLies w a h s L) : Calls Try.prog 18 #[(.pointer (some ⟨h.q, 0, none⟩))] w fun e w' => e = .returned (.int .i64 L.length) ∧ w = w' := by
  have c3 := k.c3
  have ln := k.set.len Try.underlying75 3
  generalize L.length = n at ln ⊢
  clear k
  go_enter Try.func18, Try.ntmps18
  go_wp2
  go_ret
  exact ⟨rfl, rfl⟩
def tail (L : List Int) : Int × Bool := if L = [] then (0, false) else (L.getLastD (-1), true)
theorem tail_calls (k : QLies w a h s L) : Calls Try.prog 17 #[(.pointer (some ⟨h.q, 0, none⟩))] w fun e w' => e = .returned (.tuple #[.int .i64 (tail L).1, .bool (tail L).2]) ∧ w = w' := by
  unfold tail
  have c2 := k.c2
  have e : L.getLastD (-1) = -1 ↔ L = [] := last_none (A := L) (C := []) (by rw [List.append_nil]; exact k.li)
  by_cases hL : L = []
  · rw [if_pos hL]
    rw [e.2 hL] at c2
    clear k e hL
    go_enter Try.func17, Try.ntmps17
    go_wp2
    go_ret2
    exact ⟨rfl, rfl⟩
  · rw [if_neg hL]
    have t : (L.getLastD (-1) == -1) = false := by rw [beq_eq_false_iff_ne]; exact fun q => hL (e.1 q)
    generalize L.getLastD (-1) = n at c2 t ⊢
    clear k e hL
    go_enter Try.func17, Try.ntmps17
    go_wp2
    go_ret2
    exact ⟨rfl, rfl⟩
def before (L : List Int) (x : Int) : Int × Bool := if x ∈ L ∧ x ≠ L.headD (-1) then (prevL x (-1) L, true) else (0, false)
theorem before_calls (k : QLies w a h s L) (x : Int) : Calls Try.prog 24 #[(.pointer (some ⟨h.q, 0, none⟩)), (.int .i64 x)] w (fun e w' => e = .returned (.tuple #[.int .i64 (before L x).1, .bool (before L x).2]) ∧ Chg (fun _ => False) w w') := by
  unfold before
  have c3 := k.c3
  have c1 := k.c1
  have c0 := k.c0
  have lk := k.look x
  by_cases hm : x ∈ L
  · rw [decide_eq_true hm] at lk
    by_cases hh : x = L.headD (-1)
    · rw [if_neg (fun q => q.2 hh)]
      have t : (x == L.headD (-1)) = true := by rw [beq_iff_eq]; exact hh
      generalize L.headD (-1) = n at c1 t
      clear k hm hh
      go_enter Try.func24, Try.ntmps24
      go_wp2
      go_ret2
      exact ⟨rfl, Chg.refl _ _⟩
    · rw [if_pos ⟨hm, hh⟩]
      have t : (x == L.headD (-1)) = false := by rw [beq_eq_false_iff_ne]; exact hh
      obtain ⟨A, C, hL, hA, h3, h4, h5, h6⟩ := split_at x L hm
      rw [h5]
      have fl := (by have := k.li; rw [hL] at this; exact this : LI s (A ++ x :: C)).fields
      have hw := k.li.hdr x hm
      have GC := Lib.hid (get_calls k.lies x 1 (pl_i64 (k.li.pl hm).1))
      rw [itemGet1 hw, fl.1] at GC
      generalize A.getLastD (-1) = p at GC ⊢
      generalize L.headD (-1) = n at c1 t
      clear k hm hh hL hA h3 h4 h5 h6 fl hw
      go_enter Try.func24, Try.ntmps24
      go_wp2_with fail
      refine GC.out.mono ?_
      rintro e w1 ⟨rfl, k1⟩
      have K1 := Lib.hid k1
      clear k1
      go_wp2
      go_ret2
      exact ⟨rfl, K1.out⟩
  · rw [if_neg (fun q => hm q.1)]
    rw [decide_eq_false hm] at lk
    clear k hm
    go_enter Try.func24, Try.ntmps24
    go_wp2
    go_ret2
    exact ⟨rfl, Chg.refl _ _⟩
/-- a queue of the call's own, without items -/
theorem qnew_calls (hl : Lies w a s) : Calls Try.prog 14 #[(.pointer (some ⟨a.g, 0, none⟩))] w fun e w' => ∃ h : Qh, e = .returned (.pointer (some ⟨h.q, 0, none⟩)) ∧ QLies w' a h s [] ∧ Chg (fun _ => False) w w' ∧ w.heap.size ≤ h.q ∧ w.heap.size ≤ h.m := by
  have hmm := @run_makeMap Try.prog
  have lg := blk_lt hl.head
  have lp : a.ps < w.heap.size := World.block_lt_of_cell? w _ (hl.row 0 hl.ok.low)
  have far : ∀ x, w.heap.size ≤ x → x ≠ a.g ∧ x ≠ a.ps ∧ x ∉ a.pb := fun x hx => ⟨by omega, fun e => by subst e; omega, fun hb => by
    obtain ⟨i, hi, e⟩ := hl.of_mem hb
    have := blk_lt (hl.page i hi)
    omega⟩
  have R : Hid (∀ e w', e = Ending.returned (.pointer (some ⟨w.heap.size + 1, 0, none⟩)) → w' = (w.alloc (.map #[] 0)).alloc (.cells (qcells a ⟨w.heap.size + 1, w.heap.size⟩ (-1) (-1)).toArray 77) → ∃ h : Qh, e = .returned (.pointer (some ⟨h.q, 0, none⟩)) ∧ QLies w' a h s [] ∧ Chg (fun _ => False) w w' ∧ w.heap.size ≤ h.q ∧ w.heap.size ≤ h.m) := fun e w' he hw => by
    subst hw
    refine ⟨⟨w.heap.size + 1, w.heap.size⟩, he, ⟨(hl.chg (Chg.alloc _ _ _) id id fun _ _ => id).chg (Chg.alloc (fun _ => False) _ _) id id (fun _ _ => id), ⟨hl.ok, fun x hx => by simp at hx, List.Pairwise.nil, trivial⟩, ?_, (MSet.made w).chg (Chg.alloc (fun _ => False) _ _) id, ⟨far _ (by show _ ≤ w.heap.size + 1; omega), far _ (Nat.le_refl _), by show w.heap.size + 1 ≠ w.heap.size; omega⟩⟩, (Chg.alloc _ _ _).trans (Chg.alloc _ _ _), by show _ ≤ w.heap.size + 1; omega, Nat.le_refl _⟩
    have := heap_alloc_at (w.alloc (.map #[] 0)) (.cells (qcells a ⟨w.heap.size + 1, w.heap.size⟩ (-1) (-1)).toArray 77)
    rw [World.size_alloc] at this
    exact this
  clear far lg lp hl
  go_enter Try.func14, Try.ntmps14
  go_wp2
  go_ret
  exact R.out _ _ rfl rfl
end Go.Proofs.Ytfhffffdhlofgaa.Links
