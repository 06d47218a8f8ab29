import Derived.Test.YtmffdlebahdihaaGt
import Derived.Test.YtmffdlebahdihaaGg
import Derived.Test.YtmffdlebahdihaaGd
import Derived.Deep.QuietTactic
import Derived.BigQuiet
import Derived.Test.YtmffdlebahdihaaGc
/- The reference's chunks begun; the walk of chapter 07's Made. -/
namespace Go.Proofs.Ytmffdlebahdihaa.Slab
open Go Go.RowKit Go.Shelf Go.Proofs.Ytmffdlebahdihaa.Mem Go.Proofs.Ytmffdlebahdihaa.CodecPure Go.Proofs.Ytmffdlebahdihaa.ArenaPure Go.Proofs.Ytmffdlebahdihaa.Codec Go.Proofs.Ytmffdlebahdihaa.Arena Go.Proofs.Ytmffdlebahdihaa.Item
set_option linter.unusedVariables false
set_option maxRecDepth 100000
variable {B : Nat} {w0 w w' : World} {a : Ar} {h : Sh} {s s' : St} {T : List Nat} {L : Nat → List Nat} {H : List Int} {c d x p : Nat} {f : Nat → Bool}
theorem infoRows : (Try.prog.info? 25).map (fun i => (i.zero, i.size, i.bytes)) = some (some (.slice none 0 0), 1, 24) := by kernel_rfl
theorem make_rows (n : Nat) (h : n ≤ 1000000) (W : World) : (Instr.makeSlice 130 (.int .i64 n) (.int .i64 n)).run Try.prog W = .ok (.slice (some ⟨W.heap.size, 0, none⟩) n n) (W.alloc (.cells (madeCells (Value.slice none 0 0).cells (n * 1)) 25)) := by
  obtain ⟨i0, hi, hz0, hz1, hz2⟩ := info_parts infoRows
  rw [run_make W 130 25 i0 (.slice none 0 0) Try.underlying130 hi hz0 .i64 .i64 n n (by omega) (by omega) (by rw [hz2]; omega) (by omega), hz1]
  have e : ((n : Int)).toNat = n := by omega
  rw [e]
open Go.Proofs.Ytmffdlebahdihaa.Inv in
/-- what the region's operations hand on -/
def NF (g tb n q : Nat) (w2 W : World) : Nat → Value → Prop
  | 0, v => v = (.pointer (some ⟨g, 0, none⟩))
  | 1, v => ∃ k, v = .slice (some ⟨k, 0, none⟩) 0 0 ∧ Mem.Own W w2.heap.size 3 .i64 v []
  | 2, v => v = .slice (some ⟨tb, 0, none⟩) n q
  | 3, v => ∃ A c m, v = .slice A m c
  | 4, v => v = .slice (some ⟨tb, 0, none⟩) n q
  | 5, v => v = .int .i64 (n : Int)
  | 6, v => ∃ k, v = .slice (some ⟨k, 0, none⟩) n n
  | 7, v => ∃ A c m k, v = .agg #[(.pointer (some ⟨g, 0, none⟩)), .slice A m c, .slice (some ⟨k, 0, none⟩) n n]
  | 8, v => ∃ b : Nat, v = (.pointer (some ⟨b, 0, none⟩))
  | 9, v => ∃ b : Nat, v = (.pointer (some ⟨b, 0, none⟩))
  | _, v => v = .int .i64 0
theorem NF.chg {g tb n q : Nat} {w2 W W' : World} (hc : Chg (fun _ => False) W W') : ∀ {i : Nat} {v : Value}, NF g tb n q w2 W i v → NF g tb n q w2 W' i v := by
  intro i v h
  match i, h with
  | 0, h => exact h
  | 1, h => obtain ⟨k, e, o⟩ := h; exact ⟨k, e, o.chg hc fun _ _ => id⟩
  | 2, h => exact h
  | 3, h => exact h
  | 4, h => exact h
  | 5, h => exact h
  | 6, h => exact h
  | 7, h => exact h
  | 8, h => exact h
  | 9, h => exact h
  | (n + 10), h => exact h
structure RI (g tb n q : Nat) (w2 : World) (l : List Int) (b : Nat → Bool) (v : Nat → Value) (W : World) : Prop where
  chg : Chg (fun _ => False) w2 W
  sl : Sl W .i64 (some ⟨tb, 0, none⟩) l
  fs : ∀ i, b i = true → (i = 1 → b 3 = false) → NF g tb n q w2 W i (v i)
theorem RI.step {g tb n q : Nat} {w2 : World} {l : List Int} {b : Nat → Bool} {v : Nat → Value} {W W' : World} (h : RI g tb n q w2 l b v W) (i : Nat) (x : Value) (hc : Chg (fun _ => False) W W') (hf : NF g tb n q w2 W' i x) : RI g tb n q w2 l (Inv.up b i true) (Inv.up v i x) W' := by
  refine ⟨h.chg.trans hc, h.sl.chg hc fun _ _ => id, fun j hj hj1 => ?_⟩
  by_cases e : j = i
  · subst e; rw [Inv.up_at]; exact hf
  · rw [Inv.up_ne _ _ e] at hj ⊢
    refine NF.chg hc (h.fs j hj fun e1 => ?_)
    have := hj1 e1
    by_cases q : 3 = i
    · subst q; rw [Inv.up_at] at this; cases this
    · rw [Inv.up_ne _ _ q] at this; exact this
/-- behind the append -/
theorem RI.app {g tb n q : Nat} {w2 : World} {l : List Int} {b : Nat → Bool} {v : Nat → Value} {W W' : World} (h : RI g tb n q w2 l b v W) (ht : tb < w2.heap.size) (x : Value) (hc : Chg (fun b => w2.heap.size ≤ b) W W') (hf : NF g tb n q w2 W' 3 x) : RI g tb n q w2 l (Inv.up b 3 true) (Inv.up v 3 x) W' := by
  refine ⟨⟨hc.os.trans h.chg.os, hc.tape.trans h.chg.tape, hc.output.trans h.chg.output, Nat.le_trans h.chg.size hc.size, fun i hi _ => (hc.block i (Nat.lt_of_lt_of_le hi h.chg.size) (by omega)).trans (h.chg.block i hi id)⟩, h.sl.chg hc fun ad e => by cases e; show ¬ w2.heap.size ≤ tb; omega, fun j hj hj1 => ?_⟩
  by_cases e : j = 3
  · subst e; rw [Inv.up_at]; exact hf
  · rw [Inv.up_ne _ _ e] at hj ⊢
    have n1 : j ≠ 1 := fun e1 => by
      have := hj1 e1
      rw [Inv.up_at] at this
      cases this
    have k := h.fs j hj fun e1 => (n1 e1).elim
    match j, k, n1 with
    | 0, k, _ => exact k
    | 2, k, _ => exact k
    | 3, k, _ => exact k
    | 4, k, _ => exact k
    | 5, k, _ => exact k
    | 6, k, _ => exact k
    | 7, k, _ => exact k
    | 8, k, _ => exact k
    | 9, k, _ => exact k
    | (m + 10), k, _ => exact k
theorem RI.same {g tb n q : Nat} {w2 : World} {l : List Int} {b : Nat → Bool} {v : Nat → Value} {W : World} (h : RI g tb n q w2 l b v W) (i : Nat) (x : Value) (hf : NF g tb n q w2 W i x) : RI g tb n q w2 l (Inv.up b i true) (Inv.up v i x) W := h.step i x (Chg.refl _ _) hf
open Go.Proofs.Ytmffdlebahdihaa.Inv in
set_option maxHeartbeats 2000000 in
theorem ref7_new {r : Ra} (hl : RLies w r s) (hT : TOK T) (hf : free s = s.own.length) (tb q : Nat) (ht : Sl w .i64 (some ⟨tb, 0, none⟩) (Ti T)) :
    Calls Try.prog 44 #[(.pointer (some ⟨r.g, 0, none⟩)), .slice (some ⟨tb, 0, none⟩) T.length q] w fun e w' => ∃ b : Nat, e = .returned (.tuple #[(.pointer (some ⟨b, 0, none⟩)), .int .i64 0]) ∧ Chg (fun _ => False) w w' := by
  have t1 := hT.n1
  have t8 := hT.n8
  have cell : Hid (∀ i, i < T.length → w.cell? ⟨tb, i, none⟩ = some (.int .i64 (tz T i : Int))) := fun i hi => by
    obtain ⟨ad, e, hc⟩ := ht i (by rw [ti_len]; exact hi)
    cases e
    rw [add_plain, Nat.zero_add, ti_at] at hc
    exact hc
  have LO := Lib.hid hT.lo
  have UP := Lib.hid hT.up
  have k1 := hl.hdO
  have FC : Hid (∀ n, Calls Try.prog 82 #[(.pointer (some ⟨r.g, 0, none⟩))] (w.drewN n) fun e w' => e = .returned (.int .i64 (s.own.length : Int)) ∧ w' = w.drewN n) := fun n => (by
    have := reffree_calls (hl.chg (Chg.drewN (fun _ => False) w n) id id id)
    rw [hf] at this
    exact this.mono fun _ _ ⟨e, h⟩ => ⟨e, h.symm⟩)
  have on := hl.ok.high
  have HS := Lib.hid ht
  have mk := make_rows T.length (by omega)
  generalize s.own.length = on' at *
  obtain ⟨n, hn⟩ : ∃ n, T.length = n := ⟨_, rfl⟩
  have TL : Hid ((Ti T).length = n) := by show _ = _; rw [ti_len, hn]
  rw [hn] at t1 t8 mk ⊢
  replace hn := Lib.hid hn
  generalize madeCells (Value.slice none 0 0).cells (n * 1) = rc at mk
  clear hl hT hf ht
  have n1 : (n : Int) ≥ 1 := by omega
  have n8 : (n : Int) ≤ 8 := by omega
  go_enter Try.func44, Try.ntmps44
  go_wp2_with fail
  go_loopg [6, 7] n (fun m ok v wr => ∃ j : Nat, ok = .bool true ∧ v = .int .i64 j ∧ m = n - j ∧ j ≤ n ∧ Hid (∃ q, wr = w.drewN q))
  case atStart => exact ⟨0, rfl, rfl, by omega, by omega, 0, rfl⟩
  case round =>
    obtain ⟨j, rfl, rfl, hg, hj, E⟩ := hrel
    replace hg := Lib.hid hg
    by_cases h1 : j < n
    · have h1' : (j : Int) < (n : Int) := by omega
      have kj := cell.out j (by rw [hn.out]; exact h1)
      have lj := LO.out j (by rw [hn.out]; exact h1)
      obtain ⟨q0, rfl⟩ := E.out
      have l4 : ((tz T j : Nat) : Int) ≥ 4 := by omega
      have l5 : ((tz T j : Nat) : Int) ≤ 1024 := by omega
      by_cases j0 : j = 0
      · subst j0
        generalize tz T 0 = yj at kj l4 l5 lj
        have d4 : decide ((yj : Int) ≥ 4) = true := decide_eq_true l4
        have d5 : decide ((yj : Int) ≤ 1024) = true := decide_eq_true l5
        have d6 : decide ((4 : Int) ≤ (yj : Int)) = true := decide_eq_true l4
        go_wp2_with fail
        go_quiet (fail)
        go_wp2_with fail
        go_roundg (n - (0 + 1))
        case measure => have := hg.out; omega
        case rel => exact ⟨0 + 1, rfl, rfl, rfl, by omega, q0 + nq, by simp [World.drewN]⟩
      · have kp := cell.out (j - 1) (by rw [hn.out]; omega)
        have up := UP.out (j - 1) (by rw [hn.out]; omega)
        rw [Nat.sub_add_cancel (by omega : 1 ≤ j)] at up
        obtain ⟨p, hp⟩ : ∃ p, j - 1 = p := ⟨_, rfl⟩
        rw [hp] at kp up
        have jp : (j : Int) - 1 = (p : Int) := by omega
        have pn : (p : Int) < (n : Int) := by omega
        have pn2 : p < n := by omega
        have uq : ((tz T j : Nat) : Int) > ((tz T p : Nat) : Int) := by omega
        have jz : ((j : Int) == 0) = false := by rw [beq_eq_false_iff_ne]; omega
        generalize tz T j = yj at kj uq l4 l5 lj up
        generalize tz T p = yp at kp uq up
        have d4 : decide ((yj : Int) ≥ 4) = true := decide_eq_true l4
        have d5 : decide ((yj : Int) ≤ 1024) = true := decide_eq_true l5
        have d6 : decide ((4 : Int) ≤ (yj : Int)) = true := decide_eq_true l4
        have d7 : decide ((yj : Int) > (yp : Int)) = true := decide_eq_true uq
        have d8 : decide ((yp : Int) < (yj : Int)) = true := decide_eq_true uq
        clear hp up UP
        go_wp2_with fail
        go_quiet (fail)
        go_wp2_with fail
        go_roundg (n - (j + 1))
        case measure => have := hg.out; omega
        case rel => exact ⟨j + 1, rfl, rfl, rfl, by omega, q0 + nq, by simp [World.drewN]⟩
    · have h1' : ¬ (j : Int) < (n : Int) := by omega
      obtain rfl : j = n := by omega
      have k2 : wr.cell? ⟨r.g, 0, none⟩ = w.cell? ⟨r.g, 0, none⟩ := by obtain ⟨q0, rfl⟩ := E.out; rfl
      rw [k1] at k2
      have FC2 : Hid (∀ m, Calls Try.prog 82 #[(.pointer (some ⟨r.g, 0, none⟩))] (wr.drewN m) fun e w' => e = .returned (.int .i64 (on' : Int)) ∧ w' = wr.drewN m) := fun m => by
        obtain ⟨q0, rfl⟩ := E.out
        have := FC.out (q0 + m)
        rw [show w.drewN (q0 + m) = (w.drewN q0).drewN m by simp [World.drewN, Nat.add_assoc]] at this
        exact this
      clear FC
      go_wp2_with fail
      go_quiet ((go_at_call 82; exact Calls.quiet_of_same (FC2.out _)))
      go_wp2_with fail
      have LT : Hid (tb < wr.heap.size) := by
        obtain ⟨q0, rfl⟩ := E.out
        have := World.block_lt_of_cell? w _ (cell.out 0 (by rw [hn.out]; omega))
        exact this
      have SW : Hid (Sl (wr.drewN nq) .i64 (some ⟨tb, 0, none⟩) (Ti T)) := by
        obtain ⟨q0, rfl⟩ := E.out
        exact (HS.out.chg (Chg.drewN (fun _ => False) w q0) fun _ _ => id).chg (Chg.drewN (fun _ => False) _ nq) fun _ _ => id
      have CW : Hid (Chg (fun _ => False) w (wr.drewN nq)) := by
        obtain ⟨q0, rfl⟩ := E.out
        exact (Chg.drewN _ w q0).trans (Chg.drewN _ _ nq)
      have LT2 : Hid (tb < (wr.drewN nq).heap.size) := LT.out
      generalize wr.drewN nq = w2 at SW CW LT2 ⊢
      clear FC2 k1 k2 E cell LO UP HS hg
      refine wp_region_inv (by kernel_rfl) (by kernel_rfl) (fun L A W => ∃ (b : Nat → Bool) (v : Nat → Value), L = #[b 0, b 1, b 2, b 3, b 4, b 5, b 6, b 7, b 8, b 9, b 10] ∧
        A = ⟨#[(.pointer (some ⟨r.g, 0, none⟩)), .slice (some ⟨tb, 0, none⟩) j q, undef, undef, v 9, v 10, .bool true, (.int .i64 ((j : Int))), .slice (some ⟨tb, 0, none⟩) j q, (.int .i64 ((j : Int))), .bool true, .bool true, .slice (some ⟨tb, 0, none⟩) j q, (.int .i64 ((j : Int))), .bool true, .bool true, (.int .i64 ((j : Int))), .slice (some ⟨tb, 0, none⟩) j q, (.int .i64 ((j : Int))), .bool false, .bool false, undef, .bool false, u23, u24, u25, u26, u27, u28, u29, u30, u31, u32, u33, u34, u35, u36, u37, u38, u39, u40, u41, u42, u43, u44, u45, u46, u47, u48, u49, u50, u51, u52,
          .bool true, .bool false, (.pointer (some ⟨r.g, 0, none⟩)), (.int .i64 ((on' : Int))), (.pointer (some ⟨r.g, 0, none⟩)), (.pointer (some ⟨r.g, 0, none⟩)), (.pointer (some ⟨r.g, 0, none⟩)), .slice (some ⟨r.o, 0, none⟩) on' r.co, (.int .i64 ((on' : Int))), .bool false, v 0, v 1, v 2, v 3, v 4, v 5, v 6, v 7, v 8], []⟩ ∧ RI r.g tb j q w2 (Ti T) b v W) ?_ ?_ ?_
      · exact ⟨fun _ => false, fun i => [undef, undef, undef, undef, undef, undef, undef, undef, undef, .pointer none, .int .i64 0].getD i undef, rfl, rfl, Chg.drew _ _, SW.out.chg (Chg.drew (fun _ => False) _) fun _ _ => id, fun i h _ => by cases h⟩
      · refine Steps.cons (fun L A W hI h1x h2 K hK => ?_) ?_
        · obtain ⟨b, v, rfl, rfl, R⟩ := hI
          have R := Lib.hid R
          go_simp
          exact hK.out _ _ ⟨up b 0 true, up v 0 _, rfl, rfl, R.out.same 0 _ rfl⟩
        refine Steps.cons (fun L A W hI h1x h2 K hK => ?_) ?_
        · obtain ⟨b, v, rfl, rfl, R⟩ := hI
          have R := Lib.hid R
          go_simp
          exact hK.out _ _ ⟨up b 1 true, up v 1 _, rfl, rfl, R.out.step 1 _ (Chg.alloc _ _ _) ⟨_, rfl, (Own.lit W 3 .i64 [] (by unfold maxLen; decide)).mono R.out.chg.size⟩⟩
        refine Steps.cons (fun L A W hI h1x h2 K hK => ?_) ?_
        · obtain ⟨b, v, rfl, rfl, R⟩ := hI
          have R := Lib.hid R
          go_simp
          exact hK.out _ _ ⟨up b 2 true, up v 2 _, rfl, rfl, R.out.same 2 _ rfl⟩
        refine Steps.cons (fun L A W hI h1x h2 K hK => ?_) ?_
        · obtain ⟨b, v, rfl, rfl, R⟩ := hI
          obtain ⟨k1, e1, o1⟩ := R.fs 1 (h2 0 _ rfl rfl) (fun _ => h1x)
          have e2 : v 2 = .slice (some ⟨tb, 0, none⟩) j q := R.fs 2 (h2 1 _ rfl rfl) (fun e => by cases e)
          refine step_app rfl _ _ 25 rfl w2.heap.size 3 .i64 8 Try.underlying25 infoInt (v 1) [] rfl o1 (some ⟨tb, 0, none⟩) j q (Ti T) e2 TL.out R.sl (fun e => by cases e) (by unfold maxLen; rw [List.length_nil]; omega) (by rw [List.length_nil]; omega) R.chg.size ?_
          intro A' c' n' w' hn' hown hchg
          exact hK.out _ _ ⟨up b 3 true, up v 3 _, rfl, rfl, R.app (by exact LT2.out) _ hchg ⟨_, _, _, rfl⟩⟩
        refine Steps.cons (fun L A W hI h1x h2 K hK => ?_) ?_
        · obtain ⟨b, v, rfl, rfl, R⟩ := hI
          have R := Lib.hid R
          go_simp
          exact hK.out _ _ ⟨up b 4 true, up v 4 _, rfl, rfl, R.out.same 4 _ rfl⟩
        refine Steps.cons (fun L A W hI h1x h2 K hK => ?_) ?_
        · obtain ⟨b, v, rfl, rfl, R⟩ := hI
          have e4 : v 4 = .slice (some ⟨tb, 0, none⟩) j q := R.fs 4 (h2 0 _ rfl rfl) (fun e => by cases e)
          have R := Lib.hid R
          go_simp
          exact hK.out _ _ ⟨up b 5 true, up v 5 (.int .i64 (j : Int)), rfl, by simp [up, e4], R.out.same 5 _ rfl⟩
        refine Steps.cons (fun L A W hI h1x h2 K hK => ?_) ?_
        · obtain ⟨b, v, rfl, rfl, R⟩ := hI
          have e5 : v 5 = .int .i64 (j : Int) := R.fs 5 (h2 0 _ rfl rfl) (fun e => by cases e)
          have R := Lib.hid R
          go_simp
          exact hK.out _ _ ⟨up b 6 true, up v 6 (.slice (some ⟨W.heap.size, 0, none⟩) j j), rfl, by simp [up, e5], R.out.step 6 _ (Chg.alloc _ _ _) ⟨_, rfl⟩⟩
        refine Steps.cons (fun L A W hI h1x h2 K hK => ?_) ?_
        · obtain ⟨b, v, rfl, rfl, R⟩ := hI
          have e0 : v 0 = (.pointer (some ⟨r.g, 0, none⟩)) := R.fs 0 (h2 0 _ rfl rfl) (fun e => by cases e)
          obtain ⟨A3, c3, m3, e3⟩ := R.fs 3 (h2 1 _ rfl rfl) (fun e => by cases e)
          obtain ⟨k6, e6⟩ := R.fs 6 (h2 2 _ rfl rfl) (fun e => by cases e)
          have R := Lib.hid R
          go_simp
          exact hK.out _ _ ⟨up b 7 true, up v 7 (.agg #[(.pointer (some ⟨r.g, 0, none⟩)), .slice A3 m3 c3, .slice (some ⟨k6, 0, none⟩) j j]), rfl, by simp [up, e0, e3, e6], R.out.same 7 _ ⟨_, _, _, _, rfl⟩⟩
        refine Steps.cons (fun L A W hI h1x h2 K hK => ?_) ?_
        · obtain ⟨b, v, rfl, rfl, R⟩ := hI
          obtain ⟨A7, c7, m7, k7, e7⟩ := R.fs 7 (h2 0 _ rfl rfl) (fun e => by cases e)
          have R := Lib.hid R
          go_simp
          exact hK.out _ _ ⟨up b 8 true, up v 8 (.pointer (some ⟨W.heap.size, 0, none⟩)), rfl, by simp [up, e7], R.out.step 8 _ (Chg.alloc _ _ _) ⟨_, rfl⟩⟩
        refine Steps.cons (fun L A W hI h1x h2 K hK => ?_) ?_
        · obtain ⟨b, v, rfl, rfl, R⟩ := hI
          obtain ⟨b8, e8⟩ := R.fs 8 (h2 0 _ rfl rfl) (fun e => by cases e)
          have R := Lib.hid R
          go_simp
          exact hK.out _ _ ⟨up b 9 true, up v 9 (.pointer (some ⟨b8, 0, none⟩)), rfl, by simp [up, e8], R.out.same 9 _ ⟨_, rfl⟩⟩
        refine Steps.cons (fun L A W hI h1x h2 K hK => ?_) Steps.nil
        · obtain ⟨b, v, rfl, rfl, R⟩ := hI
          have R := Lib.hid R
          go_simp
          exact hK.out _ _ ⟨up b 10 true, up v 10 _, rfl, rfl, R.out.same 10 _ rfl⟩
      · rintro L A W ⟨b, v, rfl, rfl, R⟩ hall
        obtain ⟨b9, e9⟩ := R.fs 9 (hall 9 (by decide)) (fun e => by cases e)
        have e10 : v 10 = .int .i64 0 := R.fs 10 (hall 10 (by decide)) (fun e => by cases e)
        have R := Lib.hid R
        rw [e9, e10]
        generalize v 0 = v0
        generalize v 1 = v1
        generalize v 2 = v2
        generalize v 3 = v3
        generalize v 4 = v4
        generalize v 5 = v5
        generalize v 6 = v6
        generalize v 7 = v7
        generalize v 8 = v8
        clear mk e9 e10 hall
        go_wp2_with fail
        go_ret2
        exact ⟨b9, rfl, CW.out.trans R.out.chg⟩
end Go.Proofs.Ytmffdlebahdihaa.Slab

/- The walk of chapter 07's Made. -/
namespace Go.Proofs.Ytmffdlebahdihaa.Slab
open Go Go.RowKit Go.Shelf Go.Proofs.Ytmffdlebahdihaa.Mem Go.Proofs.Ytmffdlebahdihaa.CodecPure Go.Proofs.Ytmffdlebahdihaa.ArenaPure Go.Proofs.Ytmffdlebahdihaa.Codec Go.Proofs.Ytmffdlebahdihaa.Arena Go.Proofs.Ytmffdlebahdihaa.Item
set_option linter.unusedVariables false
set_option maxRecDepth 100000
variable {B : Nat} {w0 w w' : World} {a : Ar} {h : Sh} {s s' : St} {T : List Nat} {L : Nat → List Nat} {H : List Int} {c d x p : Nat} {f : Nat → Bool}
theorem new_own (p : Nat) : (new p).own = List.replicate p (-1) := rfl
theorem free_new (p : Nat) : free (new p) = (new p).own.length := by
  unfold free
  rw [new_own, List.length_replicate, List.countP_replicate]
  simp
theorem sli_new (h1 : 1 ≤ p) (h2 : p ≤ 32) (hT : TOK T) : SLI (new p) T nos :=
  ⟨Arena.new_ok p h1 h2, hT.n8, hT.lo, fun q hq => by
    rw [new_own, List.length_replicate] at hq
    rw [new_own, List.getD_eq_getElem?_getD, List.getElem?_replicate, if_pos hq]
    show (-1 : Int) < _
    omega, fun _ _ => List.nodup_nil, fun _ _ _ h => (by cases h), fun _ _ => trivial⟩
/-- both begun: the program's chunks, and the block that holds them -/
def MdEnd (w : World) (p : Nat) (T : List Nat) (e : Ending) (w' : World) : Prop :=
  ∃ (a : Ar) (h : Sh) (b rg r7 : Nat), e = .returned (.tuple #[(.pointer (some ⟨b, 0, none⟩)), .bool true, .bool true]) ∧ w'.heap[b]? = some (.cells #[(.pointer (some ⟨a.g, 0, none⟩)), (.pointer (some ⟨h.b, 0, none⟩)), (.pointer (some ⟨rg, 0, none⟩)), (.pointer (some ⟨r7, 0, none⟩))] 37 (0, 0)) ∧ SX w.heap.size w w' a h T (new p) nos ∧ w.heap.size ≤ b ∧ ¬ S7 a h b
set_option maxHeartbeats 2000000 in
theorem made7 (h1 : 1 ≤ p) (h2 : p ≤ 32) (hT : TOK T) (tb q : Nat) (ht : Sl w .i64 (some ⟨tb, 0, none⟩) (Ti T)) (htl : tb < w.heap.size) : Calls Try.prog 13 #[(.int .i64 ((p : Int))), .slice (some ⟨tb, 0, none⟩) T.length q] w (MdEnd w p T) := by
  have t1 := hT.n1
  have t8 := hT.n8
  have HS := Lib.hid ht
  have TOKH := Lib.hid hT
  have SL0 := Lib.hid (sli_new h1 h2 hT)
  have ep : ((p : Int)).toNat = p := by omega
  obtain ⟨n, hn⟩ : ∃ n, T.length = n := ⟨_, rfl⟩
  have TL : Hid ((Ti T).length = n) := by show _ = _; rw [ti_len, hn]
  rw [hn] at t1 t8 ⊢
  replace hn := Lib.hid hn
  clear hT ht
  go_enter Try.func13, Try.ntmps13
  go_wp2_with fail
  refine (new_calls p w).mono ?_
  rintro e wa hq
  rcases hq with ⟨hq, _⟩ | ⟨_, _, a, rfl, hl, hc, k1, k2, k3, k4, k5⟩
  · omega
  rw [ep] at hl
  have AL : Hid (Lies wa a (new p) ∧ Chg (fun _ => False) w wa ∧ w.heap.size ≤ a.g ∧ w.heap.size ≤ a.ps ∧ (∀ b ∈ a.pb, w.heap.size ≤ b) ∧ (∀ b ∈ a.pb, b < wa.heap.size) ∧ a.ps < wa.heap.size ∧ a.g < wa.heap.size) := ⟨hl, hc, k1, k2, k3, k4, k5, blk_lt hl.head⟩
  clear hl hc k1 k2 k3 k4 k5
  go_wp2_with fail
  refine (refnew_calls p wa).mono ?_
  rintro e wb hq
  rcases hq with ⟨hq, _⟩ | ⟨_, _, r, rfl, hr, hc2, g1, g2, g3⟩
  · omega
  rw [ep] at hr
  have RL : Hid (RLies wb r (new p) ∧ Chg (fun _ => False) wa wb ∧ wa.heap.size ≤ r.g ∧ wa.heap.size ≤ r.o ∧ wa.heap.size ≤ r.b) := ⟨hr, hc2, g1, g2, g3⟩
  have CB : Hid (Chg (fun _ => False) w wb) := AL.out.2.1.trans hc2
  have SB : Hid (Sl wb .i64 (some ⟨tb, 0, none⟩) (Ti T)) := HS.out.chg CB.out fun _ _ => id
  clear hr hc2 g1 g2 g3
  go_wp2_with (at_builtin; refine wpList_app rfl _ _ 25 rfl wb.heap.size 3 .i64 8 Try.underlying25 infoInt _ [] rfl (Own.lit wb 3 .i64 [] (by unfold maxLen; decide)) (some ⟨tb, 0, none⟩) n q (Ti T) rfl TL.out (SB.out.chg (Chg.alloc (fun _ => False) _ _) fun _ _ => id) (fun e => by cases e) ?h63 ?hby ?hba ?_; (case h63 => unfold maxLen; rw [List.length_nil]; omega); (case hby => rw [List.length_nil]; omega); (case hba => rw [World.size_alloc]; omega); intro A' c' n' wc hn' hown hchg; obtain rfl : n' = n := (by rw [List.length_nil] at hn'; omega); have O3 : Hid (Mem.Own wc wb.heap.size 3 .i64 (.slice A' n' c') (Ti T)) := hown; have C3 : Hid (Chg (fun b => wb.heap.size ≤ b) wb wc) := ((Chg.alloc _ _ _).trans hchg); clear hn' hown hchg)
  obtain ⟨gt, cs, rfl, hgt, -⟩ := O3.out.blk (by rw [TL.out]; omega)
  have gtl := (World.ownsRow.lt O3.out gt rfl).2
  have LC : Lies wc a (new p) := (AL.out.1.chg RL.out.2.1 id id fun _ _ => id).chg C3.out (by have := AL.out.2.2.2.2.2.2.2; have := RL.out.2.1.size; show ¬ _; omega) (by have := AL.out.2.2.2.2.2.2.1; have := RL.out.2.1.size; show ¬ _; omega) fun b hb => by have := AL.out.2.2.2.2.2.1 b hb; have := RL.out.2.1.size; show ¬ _; omega
  have S3 := C3.out.size
  have S2 := RL.out.2.1.size
  have NC := Go.Proofs.Ytmffdlebahdihaa.Slab.new_ok (T := T) LC ⟨by have := AL.out.2.2.2.2.2.2.2; omega, by have := AL.out.2.2.2.2.2.2.1; omega, fun b hb => by have := AL.out.2.2.2.2.2.1 b hb; omega⟩ TOKH.out (free_new p) gt c' O3.out.sl
  rw [hn.out] at NC
  have CC3 : Hid (Chg (fun x => w.heap.size ≤ x) w wc) := (CB.out.mono fun _ _ h => h.elim).trans (C3.out.mono fun b _ hb => show w.heap.size ≤ b by have := CB.out.size; omega)
  refine NC.mono ?_
  rintro e wd ⟨h, rfl, k1, k2, k3, k4⟩
  have K := Lib.hid k1
  have CD : Hid (Chg (fun x => w.heap.size ≤ x) w wd) := CC3.out.trans (k2.mono fun b _ hb => show w.heap.size ≤ b by have := CC3.out.size; omega)
  have RD : RLies wd r (new p) := (RL.out.1.chg C3.out (by have := blk_lt RL.out.1.head; show ¬ _; omega) (by have := RL.out.1.o_lt; show ¬ _; omega) (by have := RL.out.1.b_lt; show ¬ _; omega)).chg k2 (by have := blk_lt RL.out.1.head; show ¬ _; omega) (by have := RL.out.1.o_lt; show ¬ _; omega) (by have := RL.out.1.b_lt; show ¬ _; omega)
  have SD : Sl wd .i64 (some ⟨tb, 0, none⟩) (Ti T) := HS.out.chg CD.out fun ad e => by cases e; show ¬ w.heap.size ≤ tb; omega
  have RN := ref7_new RD TOKH.out (free_new p) tb q SD
  rw [hn.out] at RN
  replace RN := Lib.hid RN
  have LW : Hid (∀ x, S7 a h x → w.heap.size ≤ x ∧ x < wd.heap.size) := fun x hx => ⟨by
    rcases k4 x hx with e | e
    · exact AL.out.2.2.2.2.1 x e
    · have := CC3.out.size; omega, wb_lt k1 x (by
    rcases hx with e | e
    · exact .inr (.inr (.inl e))
    · exact .inr (.inr (.inr (.inr (.inr e)))))⟩
  have HB : Hid (w.heap.size ≤ h.b) := by have := CC3.out.size; show _ ≤ _; omega
  clear k1 k2 k3 k4 NC LC O3 C3 CB SB RL AL hgt gtl S3 S2 RD SD
  go_wp2_with fail
  refine RN.out.mono ?_
  rintro e we ⟨r7, rfl, ce⟩
  have F : Hid (SX w.heap.size w (we.alloc (.cells #[(.pointer (some ⟨a.g, 0, none⟩)), (.pointer (some ⟨h.b, 0, none⟩)), (.pointer (some ⟨r.g, 0, none⟩)), (.pointer (some ⟨r7, 0, none⟩))] 37)) a h T (new p) nos ∧ (we.alloc (.cells #[(.pointer (some ⟨a.g, 0, none⟩)), (.pointer (some ⟨h.b, 0, none⟩)), (.pointer (some ⟨r.g, 0, none⟩)), (.pointer (some ⟨r7, 0, none⟩))] 37)).heap[we.heap.size]? = some (.cells #[(.pointer (some ⟨a.g, 0, none⟩)), (.pointer (some ⟨h.b, 0, none⟩)), (.pointer (some ⟨r.g, 0, none⟩)), (.pointer (some ⟨r7, 0, none⟩))] 37 (0, 0)) ∧ w.heap.size ≤ we.heap.size ∧ ¬ S7 a h we.heap.size) := by
    have ca := ce.trans (Chg.alloc (fun _ => False) we (.cells #[(.pointer (some ⟨a.g, 0, none⟩)), (.pointer (some ⟨h.b, 0, none⟩)), (.pointer (some ⟨r.g, 0, none⟩)), (.pointer (some ⟨r7, 0, none⟩))] 37))
    refine ⟨⟨K.out.fresh ca, SL0.out, CD.out.trans (ca.mono fun _ _ q => q.elim), fun x hx => (LW.out x hx).1⟩, heap_alloc_at _ _, ?_, fun hx => ?_⟩
    · have := CD.out.size; have := ce.size; omega
    · have := (LW.out _ hx).2; have := ce.size; omega
  clear ce RN K CD LW CC3 SL0 HS
  go_wp2_with fail
  go_ret3
  exact ⟨a, h, we.heap.size, r.g, r7, rfl, F.out.2.1, F.out.1, F.out.2.2⟩
end Go.Proofs.Ytmffdlebahdihaa.Slab

/- The walk of chapter 07's works. -/
namespace Go.Proofs.Ytmffdlebahdihaa.Slab
open Go Go.RowKit Go.Shelf Go.Proofs.Ytmffdlebahdihaa.Mem Go.Proofs.Ytmffdlebahdihaa.CodecPure Go.Proofs.Ytmffdlebahdihaa.ArenaPure Go.Proofs.Ytmffdlebahdihaa.Codec Go.Proofs.Ytmffdlebahdihaa.Arena Go.Proofs.Ytmffdlebahdihaa.Item
set_option linter.unusedVariables false
set_option maxRecDepth 100000
variable {B : Nat} {w0 w w' : World} {a : Ar} {h : Sh} {s s' : St} {T : List Nat} {L : Nat → List Nat} {H : List Int} {c d x p : Nat} {f : Nat → Bool}
theorem SX.alloc_fresh (k : SX B w0 w a h T s L) (hc : c < T.length) (e : L c = []) (hf : first s.own < s.own.length) : Calls Try.prog 16 #[(.pointer (some ⟨h.b, 0, none⟩)), (.int .i64 ((c : Int)))] w (AlEnd B w0 w a h T s L (s.own.set (first s.own) (c : Int)) (upN L c (chl T c (first s.own)).tail) c (1024 * first s.own)) := by
  obtain ⟨l, hl, P⟩ := k.alloc_grant hc e hf
  have : (chl T c (first s.own)).tail = l := by rw [hl]; rfl
  rw [this]
  exact P
def tOK (T : List Nat) : Bool := decide (1 ≤ T.length) && decide (T.length ≤ 8) && (List.range T.length).all (fun c => decide (4 ≤ tz T c) && decide (tz T c ≤ 1024)) && (List.range (T.length - 1)).all (fun c => decide (tz T c < tz T (c + 1)))
theorem tok_of (h : tOK T = true) : TOK T := by
  unfold tOK at h
  simp only [Bool.and_eq_true, decide_eq_true_eq, List.all_eq_true, List.mem_range] at h
  exact ⟨h.1.1.1, h.1.1.2, fun c hc => h.1.2 c hc, fun c hc => h.2 c (by omega)⟩
/-- no chunk begins there: as a test -/
theorem nochk_of {own : List Int} {T : List Nat} {y : Int} (h : ∀ c, c < T.length → ¬ (own.getD (y.toNat / 1024) 0 = (c : Int) ∧ y.toNat % 1024 % tz T c = 0)) : NoChk own T y := fun c hc x e k => by
  subst e
  exact h c hc ⟨k.cls, k.al⟩
def TW : List Nat := [64, 1024]
set_option maxHeartbeats 4000000 in
theorem works7_calls (w : World) : Calls Try.prog 12 #[] w fun e w' => e = .returned (.bool true) ∧ Below w.heap.size w w' := by
  have MD := Lib.hid (made7 (w := w.alloc (.cells (nums .i64 (Ti TW)).toArray 3)) (p := 2) (T := TW) (by decide) (by decide) (tok_of (by decide +kernel)) w.heap.size 2 (sl_lit w .i64 (Ti TW) 3 (0, 0)) (by rw [World.size_alloc]; omega))
  go_enter Try.func12, Try.ntmps12
  go_wp2_with fail
  refine MD.out.mono ?_
  rintro e w1 ⟨a, h, b, rg, r7, rfl, hb, k0, hb0, -⟩
  have CB : Hid (Below w.heap.size w (w.alloc (.cells (nums .i64 (Ti TW)).toArray 3))) := (Below.refl _ w).alloc (Nat.le_refl _) _
  have hz : w.heap.size ≤ (w.alloc (.cells (nums .i64 (Ti TW)).toArray 3)).heap.size := by rw [World.size_alloc]; omega
  have f1 : w1.cell? ⟨b, 1, none⟩ = some (.pointer (some ⟨h.b, 0, none⟩)) := by rw [blk_cell hb]; rfl
  generalize w.alloc (.cells (nums .i64 (Ti TW)).toArray 3) = wo at k0 CB hz hb0
  have A1 := k0.alloc_fresh (c := 0) (by decide) rfl (by decide +kernel)
  rw [show 1024 * first (new 2).own = 0 by decide +kernel, show (new 2).own.set (first (new 2).own) ((0 : Nat) : Int) = [0, -1] by decide +kernel, show (chl TW 0 (first (new 2).own)).tail = 64 :: (chl TW 0 0).drop 2 by decide +kernel] at A1
  replace A1 := Lib.hid A1
  clear MD hb hb0
  go_wp2_with fail
  refine A1.out.mono ?_
  rintro e w2 ⟨rfl, t1, k1, o1, -, -, -, -, -⟩
  have A2 := k1.alloc_pop (c := 0) (x := 64) (l := (chl TW 0 0).drop 2) (by decide) rfl
  rw [o1, upN_two] at A2
  replace A2 := Lib.hid A2
  clear A1 k0 k1 f1
  go_wp2_with fail
  refine A2.out.mono ?_
  rintro e w3 ⟨rfl, t2, k2, o2, -, -, -, -, -⟩
  have A3 := k2.free_ok (c := 0) (x := 0) (by decide) (by rw [o2]; exact ⟨by decide, by decide, by decide, by decide⟩) (by rw [upN_at]; decide +kernel)
  rw [o2, upN_two, upN_at] at A3
  replace A3 := Lib.hid A3
  clear A2 k2
  go_wp2_with fail
  refine A3.out.mono ?_
  rintro e w4 ⟨rfl, t3, k3, o3, -, -⟩
  have A4 := k3.alloc_pop (c := 0) (x := 0) (l := (chl TW 0 0).drop 2) (by decide) rfl
  rw [o3, upN_two] at A4
  replace A4 := Lib.hid A4
  clear A3 k3
  go_wp2_with fail
  refine A4.out.mono ?_
  rintro e w5 ⟨rfl, t4, k4, o4, -, -, -, -, -⟩
  have A5 := k4.alloc_fresh (c := 1) (by decide) rfl (by rw [o4]; decide +kernel)
  rw [o4, show 1024 * first [0, -1] = 1024 by decide +kernel, show ([0, -1] : List Int).set (first [0, -1]) ((1 : Nat) : Int) = [0, 1] by decide +kernel, show (chl TW 1 (first [0, -1])).tail = [] by decide +kernel] at A5
  replace A5 := Lib.hid A5
  clear A4 k4
  go_wp2_with fail
  refine A5.out.mono ?_
  rintro e w6 ⟨rfl, t5, k5, o5, -, -, -, -, -⟩
  have A6 := k5.alloc_full (c := 1) (by decide) rfl (by rw [o5]; decide +kernel) (fun _ => False)
  rw [o5] at A6
  replace A6 := Lib.hid A6
  clear A5 k5
  go_wp2_with fail
  refine A6.out.mono ?_
  rintro e w7 ⟨rfl, t6, k6, o6, -, -⟩
  have A7 := counts_calls k6.wb k6.inv (c := 0) (by decide)
  rw [o6, show (upN (upN nos 0 ((chl TW 0 0).drop 2)) 1 [] 0).length = 14 by decide +kernel, show pgs [0, 1] 0 = 1 by decide +kernel, show 1 * (1024 / tz TW 0) = 16 by decide +kernel] at A7
  replace A7 := Lib.hid A7
  have K6 := Lib.hid k6
  clear A6 k6
  go_wp2_with fail
  refine A7.out.mono ?_
  rintro e w8 ⟨rfl, c8⟩
  have K8 := Lib.hid (K6.out.fresh c8)
  have A8 := K8.out.free_no 5 (by decide) (nochk_of (by rw [o6]; decide +kernel)) (fun _ => False)
  replace A8 := Lib.hid A8
  clear A7 K6 c8
  go_wp2_with fail
  refine A8.out.mono ?_
  rintro e w9 ⟨rfl, t9, k9, o9, -, -⟩
  rw [o6] at o9
  have A9 := k9.release_busy (c := 0) (p := 0) (by decide) (by rw [o9]; decide) (by rw [o9]; decide) (fun q => by have := q 0 (by decide +kernel); revert this; decide +kernel) (fun _ => False)
  rw [o9] at A9
  replace A9 := Lib.hid A9
  clear A8 k9
  go_wp2_with fail
  refine A9.out.mono ?_
  rintro e w10 ⟨rfl, t10, k10, o10, -, -⟩
  have F : Hid (Below w.heap.size w w10) := CB.out.trans (k10.chg.below hz fun b hb => by omega)
  clear A9 k10
  go_wp2_with fail
  go_ret
  exact ⟨rfl, F.out⟩
end Go.Proofs.Ytmffdlebahdihaa.Slab

/- Chunks of the call's own, with the block that leads to them, beside rows of the call's own. -/
namespace Go.Proofs.Ytmffdlebahdihaa.Slab
open Go Go.RowKit Go.Shelf Go.Proofs.Ytmffdlebahdihaa.Mem Go.Proofs.Ytmffdlebahdihaa.CodecPure Go.Proofs.Ytmffdlebahdihaa.ArenaPure Go.Proofs.Ytmffdlebahdihaa.Codec Go.Proofs.Ytmffdlebahdihaa.Arena Go.Proofs.Ytmffdlebahdihaa.Item
set_option linter.unusedVariables false
set_option maxRecDepth 100000
variable {B base b rg r7 : Nat} {w0 w w' : World} {a : Ar} {h : Sh} {s s' t : St} {T : List Nat} {L M : Nat → List Nat} {H : List Int} {c d x p : Nat} {f : Nat → Bool} {own : List Int} {E : Nat → Prop} {v : Value} {e : Ending}
def blk7 (a : Ar) (h : Sh) (x : Nat) : Prop := x = a.g ∨ x = a.ps ∨ x ∈ a.pb ∨ x = h.b ∨ x = h.t ∨ x = h.h
structure BX (B base : Nat) (w0 w : World) (a : Ar) (h : Sh) (b rg r7 : Nat) (T : List Nat) (s : St) (L : Nat → List Nat) : Prop where
  sx : SX B w0 w a h T s L
  bk : w.heap[b]? = some (.cells #[(.pointer (some ⟨a.g, 0, none⟩)), (.pointer (some ⟨h.b, 0, none⟩)), (.pointer (some ⟨rg, 0, none⟩)), (.pointer (some ⟨r7, 0, none⟩))] 37 (0, 0))
  nb : ¬ S7 a h b
  lt : ∀ x, blk7 a h x ∨ x = b → x < base
  hB : B ≤ base
  sz : base ≤ w.heap.size
theorem MdEnd.bx (h : MdEnd w p T e w') : ∃ (a : Ar) (h : Sh) (b rg r7 : Nat), e = .returned (.tuple #[(.pointer (some ⟨b, 0, none⟩)), .bool true, .bool true]) ∧ BX w.heap.size w'.heap.size w w' a h b rg r7 T (new p) nos := by
  obtain ⟨a, h, b, rg, r7, e1, hb, k, h1, h2⟩ := h
  refine ⟨a, h, b, rg, r7, e1, k, hb, h2, fun x hx => ?_, k.chg.size, Nat.le_refl _⟩
  rcases hx with hx | rfl
  · exact wb_lt k.wb x hx
  · exact blk_lt hb
theorem BX.f1 (k : BX B base w0 w a h b rg r7 T s L) : w.cell? ⟨b, 1, none⟩ = some (.pointer (some ⟨h.b, 0, none⟩)) := by rw [blk_cell k.bk]; rfl
theorem BX.f0 (k : BX B base w0 w a h b rg r7 T s L) : w.cell? ⟨b, 0, none⟩ = some (.pointer (some ⟨a.g, 0, none⟩)) := by rw [blk_cell k.bk]; rfl
theorem BX.act (k : BX B base w0 w a h b rg r7 T s L) (h1 : SX B w0 w' a h T t M) (h2 : Chg (S7 a h) w w') : BX B base w0 w' a h b rg r7 T t M := ⟨h1, h2.keep k.bk k.nb, k.nb, k.lt, k.hB, Nat.le_trans k.sz h2.size⟩
theorem BX.skip (k : BX B base w0 w a h b rg r7 T s L) (hc : Chg (fun x => base ≤ x) w w') : BX B base w0 w' a h b rg r7 T s L :=
  ⟨⟨k.sx.wb.skip hc fun x hx => by have := k.lt x (.inl hx); show ¬ base ≤ x; omega, k.sx.inv, k.sx.chg.trans (hc.mono fun x _ hx => Nat.le_trans k.hB hx), k.sx.low⟩, hc.keep k.bk (by have := k.lt b (.inr rfl); show ¬ base ≤ b; omega), k.nb, k.lt, k.hB, Nat.le_trans k.sz hc.size⟩
theorem BX.fresh (k : BX B base w0 w a h b rg r7 T s L) (hc : Chg (fun _ => False) w w') : BX B base w0 w' a h b rg r7 T s L := k.skip (hc.mono fun _ _ q => q.elim)
theorem s7_lt (k : BX B base w0 w a h b rg r7 T s L) : ∀ x, S7 a h x → x < base := fun x hx => k.lt x (.inl (by
  rcases hx with hx | hx
  · exact .inr (.inr (.inl hx))
  · exact .inr (.inr (.inr (.inr (.inr hx))))))
/-- a row of the call's own behind an act -/
theorem BX.row (k : BX B base w0 w a h b rg r7 T s L) {base' : Nat} (hb : base ≤ base') {ty : TypeId} {ik : IntKind} {l : List Int} (ho : Mem.Own w base' ty ik v l) (hc : Chg (S7 a h) w w') : Mem.Own w' base' ty ik v l :=
  ho.chg hc fun g hg e => by
    have := s7_lt k g e
    have := (World.ownsRow.lt ho g hg).1
    omega
theorem BX.act1 (k : BX B base w0 w a h b rg r7 T s L) (hx : XEnd B w0 w a h T s L own M E v e w') : e = .returned v ∧ ∃ t, BX B base w0 w' a h b rg r7 T t M ∧ t.own = own ∧ Fr T s L t M E ∧ Chg (S7 a h) w w' := by
  obtain ⟨h1, t, h2, h3, h4, h5⟩ := hx
  exact ⟨h1, t, k.act h2 h5, h3, h4, h5⟩
theorem BX.act2 (k : BX B base w0 w a h b rg r7 T s L) (hx : AlEnd B w0 w a h T s L own M c x e w') : e = .returned (.tuple #[.int .i64 (x : Int), .int .i64 0]) ∧ ∃ t, BX B base w0 w' a h b rg r7 T t M ∧ t.own = own ∧ Fr T s L t M (fun _ => False) ∧ got t (x : Int) (tz T c) = zs (tz T c) ∧ Chk own T c x ∧ x ∉ M c ∧ Chg (S7 a h) w w' := by
  obtain ⟨h1, t, h2, h3, h4, h5, h6, h7, h8⟩ := hx
  exact ⟨h1, t, k.act h2 h8, h3, h4, h5, h6, h7, h8⟩
theorem BX.below (k : BX B base w0 w a h b rg r7 T s L) (hB : B ≤ w0.heap.size) : Below B w0 w := k.sx.chg.below hB fun _ h => h
end Go.Proofs.Ytmffdlebahdihaa.Slab

/- append of so many noughts onto an empty row. -/
namespace Go.Proofs.Ytmffdlebahdihaa.Slab
open Go Go.RowKit Go.Shelf Go.Proofs.Ytmffdlebahdihaa.Mem Go.Proofs.Ytmffdlebahdihaa.CodecPure Go.Proofs.Ytmffdlebahdihaa.ArenaPure Go.Proofs.Ytmffdlebahdihaa.Codec Go.Proofs.Ytmffdlebahdihaa.Arena Go.Proofs.Ytmffdlebahdihaa.Item
set_option linter.unusedVariables false
set_option maxRecDepth 100000
theorem app_make (W : World) (g m : Nat) (ty : TypeId) (h1 : 1 ≤ m) (h2 : m ≤ 1000) : ∃ c, (Builtin.append_ #[48, 3] ty #[.slice (some ⟨g, 0, none⟩) 0 0, .int .i64 (m : Int)]).run Try.prog W =
    .ok (.slice (some ⟨W.heap.size, 0, none⟩) m c) (W.drew.alloc (.cells (Builtin.zeroCells #[.int .u8 0] m ++ Builtin.zeroCells #[.int .u8 0] (c - m)) 5)) := by
  have n0 : ¬ (m : Int) < 0 := by omega
  have n1 : ¬ m = 0 := by omega
  have n2 : IntKind.i64.wrap (m : Int) = (m : Int) := IntWalk.i64_in _ (by omega)
  refine ⟨(Question.appendCap m 0 5).cut (W.tape W.drawn (Question.appendCap m 0 5)), ?_⟩
  unfold Builtin.append_
  go_simp
  have hb : (Try.t5).bytes = 1 := rfl
  have hc : Builtin.nextslicecap m 0 = m := by
    unfold Builtin.nextslicecap
    rw [if_pos (by omega)]
  rw [hb, hc, if_neg (by omega), if_neg (by omega), if_neg (by omega)]
theorem zero_cell (m k j : Nat) (hj : j < m) : (Builtin.zeroCells #[Value.int .u8 0] m ++ Builtin.zeroCells #[Value.int .u8 0] k)[j]? = some (.int .u8 0) := by
  unfold Builtin.zeroCells
  rw [Array.getElem?_append_left (by simp; omega), Array.getElem?_map, Array.getElem?_range]
  simp
  exact ⟨hj, by rw [Nat.mod_one]; rfl⟩
theorem step_make {w : World} {ops : Array Oper} {o : Oper} {a : Act} {K : Act → World → Prop} {Q : Exit → Act → World → Prop} {E : Prop} (hgd : o.guard = none) (s x : Operand)
    (ho : o.op = .call { callee := .builtin .append, args := #[s, x], argTypes := #[48, 3] }) (g m : Nat) (h1 : 1 ≤ m) (h2 : m ≤ 1000) (hs : a.eval s = .slice (some ⟨g, 0, none⟩) 0 0) (hx : a.eval x = .int .i64 (m : Int))
    (h : ∀ k c w', Sl w' .u8 (some ⟨k, 0, none⟩) (zs m) → Chg (fun _ => False) w w' → w.heap.size ≤ k → K (a.put o.dst (.slice (some ⟨k, 0, none⟩) m c)) w') :
    if Region.wanted o (yielded ops a.tmps) = true then Oper.wp Try.prog o a w K Q else E := by
  have hw : Region.wanted o (yielded ops a.tmps) = true := by simp [Region.wanted, hgd]
  rw [if_pos hw]
  obtain ⟨c, hr⟩ := app_make w g m o.type h1 h2
  unfold Oper.wp execOp
  simp only [ho, resolve, invoke, builtin, Sem.run_bind, Sem.run_pure, Result.andThen_ok, List.map_toArray, List.map_cons, List.map_nil, hs, hx, hr]
  refine h w.heap.size c _ (fun i hi => ?_) ((Chg.drew _ w).trans (Chg.alloc _ _ _)) (Nat.le_refl _)
  rw [zs_len] at hi
  refine ⟨_, rfl, ?_⟩
  have hb := heap_alloc_at w.drew (.cells (Builtin.zeroCells #[.int .u8 0] m ++ Builtin.zeroCells #[.int .u8 0] (c - m)) 5)
  rw [add_plain, Nat.zero_add]
  refine (blk_cell hb i).trans ?_
  rw [zero_cell m (c - m) i hi]
  unfold zs
  rw [List.getD_eq_getElem?_getD, List.getElem?_replicate, if_pos hi]; rfl
end Go.Proofs.Ytmffdlebahdihaa.Slab

/- Acts on chunks, whatever they come to. -/
namespace Go.Proofs.Ytmffdlebahdihaa.Slab
open Go Go.RowKit Go.Shelf Go.Proofs.Ytmffdlebahdihaa.Mem Go.Proofs.Ytmffdlebahdihaa.CodecPure Go.Proofs.Ytmffdlebahdihaa.ArenaPure Go.Proofs.Ytmffdlebahdihaa.Codec Go.Proofs.Ytmffdlebahdihaa.Arena Go.Proofs.Ytmffdlebahdihaa.Item
set_option linter.unusedVariables false
set_option maxRecDepth 100000
variable {B base b rg r7 : Nat} {w0 w w' : World} {a : Ar} {h : Sh} {s s' t : St} {T : List Nat} {L M : Nat → List Nat} {H : List Int} {c d x p : Nat} {f : Nat → Bool} {own : List Int} {E : Nat → Prop} {v : Value} {e : Ending}
/-- some error, and used chunks but those of E as they were -/
def AnyEnd (B base : Nat) (w0 w : World) (a : Ar) (h : Sh) (b rg r7 : Nat) (T : List Nat) (s : St) (L : Nat → List Nat) (E : Nat → Prop) (e : Ending) (w' : World) : Prop :=
  ∃ (n : Int) (t : St) (M : Nat → List Nat), e = .returned (.int .i64 n) ∧ BX B base w0 w' a h b rg r7 T t M ∧ Fr T s L t M E ∧ Chg (S7 a h) w w'
theorem BX.any (k : BX B base w0 w a h b rg r7 T s L) {n : Int} (hx : XEnd B w0 w a h T s L own M E (.int .i64 n) e w') : AnyEnd B base w0 w a h b rg r7 T s L E e w' := by
  obtain ⟨h1, t, h2, h3, h4, h5⟩ := k.act1 hx
  exact ⟨n, t, M, h1, h2, h4, h5⟩
theorem BX.free (k : BX B base w0 w a h b rg r7 T s L) (y : Int) (hy : -9223372036854775808 ≤ y ∧ y ≤ 9223372036854775807) : Calls Try.prog 14 #[(.pointer (some ⟨h.b, 0, none⟩)), (.int .i64 y)] w (AnyEnd B base w0 w a h b rg r7 T s L (fun z => (z : Int) = y)) := by
  by_cases hn : NoChk s.own T y
  · exact (k.sx.free_no y hy hn _).mono fun e w' hx => k.any hx
  · have : ∃ c, c < T.length ∧ ∃ x : Nat, y = (x : Int) ∧ Chk s.own T c x := by
      refine Classical.byContradiction fun q => hn fun c hc x e hk => q ⟨c, hc, x, e, hk⟩
    obtain ⟨c, hc, x, rfl, hk⟩ := this
    by_cases hm : x ∈ L c
    · exact (k.sx.free_twice hc hm _).mono fun e w' hx => k.any hx
    · exact (k.sx.free_ok hc hk hm).mono fun e w' hx => by
        obtain ⟨n, t, M, h1, h2, h3, h4⟩ := k.any hx
        exact ⟨n, t, M, h1, h2, h3.mono fun z q => by omega, h4⟩
theorem BX.release (k : BX B base w0 w a h b rg r7 T s L) (y : Int) : Calls Try.prog 15 #[(.pointer (some ⟨h.b, 0, none⟩)), (.int .i64 y)] w (AnyEnd B base w0 w a h b rg r7 T s L (fun _ => False)) := by
  by_cases hn : y < 0 ∨ (s.own.length : Int) ≤ y
  · exact (k.sx.release_no y hn _).mono fun e w' hx => k.any hx
  · obtain ⟨p, rfl⟩ := Int.eq_ofNat_of_zero_le (show 0 ≤ y by omega)
    have hp : p < s.own.length := by omega
    by_cases ho : s.own.getD p 0 < 0
    · exact (k.sx.release_free hp ho _).mono fun e w' hx => k.any hx
    · obtain ⟨c, hc⟩ := Int.eq_ofNat_of_zero_le (show 0 ≤ s.own.getD p 0 by omega)
      have hcl : c < T.length := by have := k.sx.inv.cls p hp; omega
      by_cases hb : ∀ x ∈ chl T c p, x ∈ L c
      · exact (k.sx.release_ok hcl hp hc hb).mono fun e w' hx => k.any hx
      · exact (k.sx.release_busy hcl hp hc hb _).mono fun e w' hx => k.any hx
/-- a chunk allocated: it was not used -/
def NewEnd (B base : Nat) (w0 w : World) (a : Ar) (h : Sh) (b rg r7 : Nat) (T : List Nat) (s : St) (L : Nat → List Nat) (c : Nat) (e : Ending) (w' : World) : Prop :=
  ∃ (x : Nat) (t : St) (M : Nat → List Nat), e = .returned (.tuple #[.int .i64 (x : Int), .int .i64 0]) ∧ BX B base w0 w' a h b rg r7 T t M ∧ Fr T s L t M (fun _ => False) ∧ Chk t.own T c x ∧ x ∉ M c ∧ got t (x : Int) (tz T c) = zs (tz T c) ∧
    (∀ d, d < T.length → ∀ y, Chk s.own T d y → y ∉ L d → y ≠ x) ∧ Chg (S7 a h) w w'
def FullEnd (B base : Nat) (w0 w : World) (a : Ar) (h : Sh) (b rg r7 : Nat) (T : List Nat) (s : St) (L : Nat → List Nat) (c : Nat) (e : Ending) (w' : World) : Prop :=
  e = .returned (.tuple #[.int .i64 0, .int .i64 2]) ∧ L c = [] ∧ ¬ first s.own < s.own.length ∧ ∃ t, BX B base w0 w' a h b rg r7 T t L ∧ t.own = s.own ∧ Fr T s L t L (fun _ => False) ∧ Chg (S7 a h) w w'
theorem BX.alloc (k : BX B base w0 w a h b rg r7 T s L) (hc : c < T.length) : Calls Try.prog 16 #[(.pointer (some ⟨h.b, 0, none⟩)), (.int .i64 ((c : Int)))] w fun e w' => NewEnd B base w0 w a h b rg r7 T s L c e w' ∨ FullEnd B base w0 w a h b rg r7 T s L c e w' := by
  cases e : L c with
  | cons x l =>
    refine (k.sx.alloc_pop hc e).mono fun e' w' hx => .inl ?_
    obtain ⟨h1, t, h2, h3, h4, h5, h6, h7, h8⟩ := k.act2 hx
    refine ⟨x, t, _, h1, h2, h4, by rw [h3]; exact h6, h7, h5, fun d hd y hy hn q => ?_, h8⟩
    subst q
    have hm : y ∈ L c := by rw [e]; exact List.mem_cons_self
    have := k.sx.inv.not_other hy hc hm
    subst this
    exact hn hm
  | nil =>
    by_cases hf : first s.own < s.own.length
    · refine (k.sx.alloc_fresh hc e hf).mono fun e' w' hx => .inl ?_
      obtain ⟨h1, t, h2, h3, h4, h5, h6, h7, h8⟩ := k.act2 hx
      refine ⟨_, t, _, h1, h2, h4, by rw [h3]; exact h6, h7, h5, fun d hd y hy hn q => ?_, h8⟩
      have := k.sx.inv.not_free (first_neg s.own hf) hy
      rw [q] at this
      omega
    · refine (k.sx.alloc_full hc e hf (fun _ => False)).mono fun e' w' hx => .inr ?_
      obtain ⟨h1, t, h2, h3, h4, h5⟩ := k.act1 hx
      exact ⟨h1, e, hf, t, h2, h3, h4, h5⟩
theorem BX.write (k : BX B base w0 w a h b rg r7 T s L) (hc : c < T.length) (hx : Chk s.own T c x) (hn : x ∉ L c) {bs : List Int} (hb : Bytes bs) (hl : bs.length ≤ tz T c) (A : Option Addr) (q : Nat) (hs : Sl w .u8 A bs) :
    Calls Try.prog 22 #[(.pointer (some ⟨a.g, 0, none⟩)), (.int .i64 ((x : Int))), .slice A bs.length q] w fun e w' => e = .returned (.int .i64 0) ∧ ∃ t, BX B base w0 w' a h b rg r7 T t L ∧ t.own = s.own ∧ Fr T s L t L (· = x) ∧ got t (x : Int) bs.length = bs ∧ Chg (S7 a h) w w' := by
  obtain ⟨f1, f2, f3, f4⟩ := k.sx.inv.fill hc hx hn hb hl
  have xl := k.sx.inv.lt hx
  have P := write_calls k.sx.wb.lies (x : Int) A q bs hs hb (by have := k.sx.inv.ts c hc; omega) (by omega)
  rw [f1] at P
  refine P.mono fun e w' ⟨h1, h2, h3⟩ => ?_
  obtain ⟨g1, g2⟩ := k.sx.wb.arena h2 h3
  exact ⟨h1, _, k.act (k.sx.next g1 f2 g2) g2, rfl, f3, f4, g2⟩
theorem BX.read (k : BX B base w0 w a h b rg r7 T s L) (hc : c < T.length) (hx : Chk s.own T c x) :
    Calls Try.prog 23 #[(.pointer (some ⟨a.g, 0, none⟩)), (.int .i64 ((x : Int))), (.int .i64 ((tz T c : Int)))] w fun e w' => ∃ A q, e = .returned (.tuple #[.slice A (got s (x : Int) (tz T c)).length q, .int .i64 0]) ∧ Mem.Own w' w.heap.size 5 .u8 (.slice A (got s (x : Int) (tz T c)).length q) (got s (x : Int) (tz T c)) ∧ Chg (fun _ => False) w w' := by
  have xl := k.sx.inv.lt hx
  have P := read_calls k.sx.wb.lies (x : Int) (tz T c : Int) (by omega)
  have e : readA s (x : Int) (tz T c : Int) = (got s (x : Int) (tz T c), 0) := if_pos (hx.within _ (by omega) (Int.le_refl _))
  rw [e] at P
  exact P
theorem got_len (k : SLI s T L) (hc : c < T.length) (hx : Chk s.own T c x) : (got s (x : Int) (tz T c)).length = tz T c := by
  have hw := hx.within (s := s) (tz T c : Int) (by omega) (Int.le_refl _)
  have := in_row k.ok hw
  unfold got
  rw [List.length_take, List.length_drop]
  omega
end Go.Proofs.Ytmffdlebahdihaa.Slab

