/- The program's queue in memory, and what its functions do: New, join, put, Push, Insert, Remove, Tail, Before, Has, Len. -/
import Derived.Test.YtfhffffdhlofgaaItemGet
import Derived.Test.YtfhffffdhlofgaaMapSet
namespace Go.Proofs.Ytfhffffdhlofgaa.Links
open Go Go.RowKit Go.Proofs.Ytfhffffdhlofgaa.Mem Go.Proofs.Ytfhffffdhlofgaa.CodecPure Go.Proofs.Ytfhffffdhlofgaa.ArenaPure Go.Proofs.Ytfhffffdhlofgaa.Codec Go.Proofs.Ytfhffffdhlofgaa.Arena Go.Proofs.Ytfhffffdhlofgaa.Item
set_option linter.unusedVariables false
set_option maxRecDepth 100000
variable {w w' : World} {a : Ar} {s : St}
/-- a queue's header and its map -/
structure Qh where
  q : Nat
  m : Nat
/-- the header's cells -/
def qcells (a : Ar) (h : Qh) (f l : Int) : List Value := [.pointer (some ⟨a.g, 0, none⟩), .int .i64 f, .int .i64 l, .map (some h.m)]
structure Qout (a : Ar) (h : Qh) : Prop where
  q : h.q ≠ a.g ∧ h.q ≠ a.ps ∧ h.q ∉ a.pb
  m : h.m ≠ a.g ∧ h.m ≠ a.ps ∧ h.m ∉ a.pb
  qm : h.q ≠ h.m
structure QLies (w : World) (a : Ar) (h : Qh) (s : St) (L : List Int) : Prop where
  lies : Lies w a s
  li : LI s L
  head : w.heap[h.q]? = some (.cells (qcells a h (L.headD (-1)) (L.getLastD (-1))).toArray 77 (0, 0))
  set : MSet w h.m L
  out : Qout a h
variable {h : Qh} {L : List Int}
/-- the blocks that a queue's functions write -/
def Q2 (a : Ar) (h : Qh) (x : Nat) : Prop := x ∈ a.pb ∨ x = h.q ∨ x = h.m
theorem QLies.fresh (k : QLies w a h s L) (hc : Chg (fun _ => False) w w') : QLies w' a h s L :=
  ⟨k.lies.chg hc id id fun _ _ => id, k.li, hc.keep k.head id, k.set.chg hc id, k.out⟩
theorem QLies.c0 (k : QLies w a h s L) : w.cell? ⟨h.q, 0, none⟩ = some (.pointer (some ⟨a.g, 0, none⟩)) := by rw [blk_cell k.head]; rfl
theorem QLies.c1 (k : QLies w a h s L) : w.cell? ⟨h.q, 1, none⟩ = some (.int .i64 (L.headD (-1))) := by rw [blk_cell k.head]; rfl
theorem QLies.c2 (k : QLies w a h s L) : w.cell? ⟨h.q, 2, none⟩ = some (.int .i64 (L.getLastD (-1))) := by rw [blk_cell k.head]; rfl
theorem QLies.c3 (k : QLies w a h s L) : w.cell? ⟨h.q, 3, none⟩ = some (.map (some h.m)) := by rw [blk_cell k.head]; rfl
theorem zeroBool (w : World) : (zeroValue 4).run Try.prog w = .ok (.bool false) w := by kernel_rfl
theorem QLies.look (k : QLies w a h s L) (n : Int) : (Instr.lookup 75 (.map (some h.m)) (.int .i64 n) false).run Try.prog w = .ok (.bool (decide (n ∈ L))) w :=
  k.set.lookup Try.underlying75 Try.underlying3 (zeroBool w) n

/-! ### join -/
def j1 (s : St) (at_ after : Int) : St := if at_ = -1 then s else (itemSet s at_ 2 after).1
def j2 (s : St) (at_ after : Int) : St := if after = -1 then j1 s at_ after else (itemSet (j1 s at_ after) after 1 at_).1
def jf (f at_ after : Int) : Int := if at_ = -1 then after else f
def jl (l at_ after : Int) : Int := if after = -1 then at_ else l
/-- no answer; the arena, the header's two ends are so now -/
def Joined (w : World) (a : Ar) (h : Qh) (s' : St) (f l : Int) (e : Ending) (w' : World) : Prop :=
  e = .returned (.tuple #[]) ∧ Lies w' a s' ∧ w'.heap[h.q]? = some (.cells (qcells a h f l).toArray 77 (0, 0)) ∧ Chg (fun x => x ∈ a.pb ∨ x = h.q) w w'
def I64 (x : Int) : Prop := -9223372036854775808 ≤ x ∧ x ≤ 9223372036854775807
theorem head_set1 {f l v : Int} (hb : w.heap[h.q]? = some (.cells (qcells a h f l).toArray 77 (0, 0))) : (w.setCell ⟨h.q, 1, none⟩ (.int .i64 v)).heap[h.q]? = some (.cells (qcells a h v l).toArray 77 (0, 0)) := by
  rw [setCell_row hb, setRow_heap w _ _ _ _ (0, 0) hb]; rfl
theorem head_set2 {f l v : Int} (hb : w.heap[h.q]? = some (.cells (qcells a h f l).toArray 77 (0, 0))) : (w.setCell ⟨h.q, 2, none⟩ (.int .i64 v)).heap[h.q]? = some (.cells (qcells a h f v).toArray 77 (0, 0)) := by
  rw [setCell_row hb, setRow_heap w _ _ _ _ (0, 0) hb]; rfl
theorem lies_q1 (hl : Lies w a s) (ho : Qout a h) (k : Nat) (v : Value) : Lies (w.setCell ⟨h.q, k, none⟩ v) a s :=
  hl.chg (S := fun x => x = h.q) (Chg.setCell _ _ _ rfl) (fun e => ho.q.1 e.symm) (fun e => ho.q.2.1 e.symm) fun b hb e => ho.q.2.2 (e ▸ hb)
theorem join_calls (hl : Lies w a s) (ho : Qout a h) (f l at_ after : Int) (hb : w.heap[h.q]? = some (.cells (qcells a h f l).toArray 77 (0, 0))) (hx : I64 at_) (hy : I64 after) :
    Calls Try.prog 52 #[(.pointer (some ⟨h.q, 0, none⟩)), (.int .i64 at_), (.int .i64 after)] w (Joined w a h (j2 s at_ after) (jf f at_ after) (jl l at_ after)) := by
  unfold j2 jf jl
  have HB := Lib.hid hb
  have HL := Lib.hid hl
  have HO := Lib.hid ho
  have c0 : w.cell? ⟨h.q, 0, none⟩ = some (.pointer (some ⟨a.g, 0, none⟩)) := by rw [blk_cell hb]; rfl
  have c1 : w.cell? ⟨h.q, 1, none⟩ = some (.int .i64 f) := by rw [blk_cell hb]; rfl
  have c2 : w.cell? ⟨h.q, 2, none⟩ = some (.int .i64 l) := by rw [blk_cell hb]; rfl
  have z1 := blk_frozen hb 1
  have z2 := blk_frozen hb 2
  clear hb hl ho
  by_cases e1 : at_ = -1
  · rw [if_pos e1]
    subst e1
    by_cases e2 : after = -1
    · rw [if_pos e2, if_pos e2]
      subst e2
      have R : Hid (Joined w a h (j1 s (-1) (-1)) (-1) (-1) (.returned (.tuple #[])) ((w.setCell ⟨h.q, 1, none⟩ (.int .i64 (-1))).setCell ⟨h.q, 2, none⟩ (.int .i64 (-1)))) :=
        ⟨rfl, lies_q1 (lies_q1 HL.out HO.out 1 _) HO.out 2 _, head_set2 (head_set1 HB.out), (Chg.setCell _ _ _ (.inr rfl)).trans (Chg.setCell _ _ _ (.inr rfl))⟩
      clear hx hy
      go_enter Try.func52, Try.ntmps52
      go_wp2
      go_end0
      exact R.out
    · rw [if_neg e2, if_neg e2]
      have j : j1 s (-1) after = s := if_pos rfl
      rw [j]
      have t2 : (after == -1) = false := by rw [beq_eq_false_iff_ne]; exact e2
      have SC := Lib.hid (set_calls (lies_q1 HL.out HO.out 1 (.int .i64 after)) after 1 (-1) hy (by decide))
      generalize (itemSet s after 1 (-1)).1 = s' at SC ⊢
      generalize (itemSet s after 1 (-1)).2 = er at SC
      clear hx hy e2
      go_enter Try.func52, Try.ntmps52
      go_wp2_with fail
      refine SC.out.mono ?_
      rintro e w2 ⟨rfl, l2, k2⟩
      have R : Hid (Joined w a h s' after l (.returned (.tuple #[])) w2) := ⟨rfl, l2, k2.keep (head_set1 HB.out) HO.out.q.2.2, ((Chg.setCell _ _ _ (.inr rfl)).trans (k2.mono fun _ _ => .inl))⟩
      clear l2 k2
      go_wp2
      go_end0
      exact R.out
  · rw [if_neg e1]
    have t1 : (at_ == -1) = false := by rw [beq_eq_false_iff_ne]; exact e1
    have j : j1 s at_ after = (itemSet s at_ 2 after).1 := if_neg e1
    rw [j]
    have SC := Lib.hid (set_calls HL.out at_ 2 after hx hy)
    generalize (itemSet s at_ 2 after).1 = s1 at SC ⊢
    generalize (itemSet s at_ 2 after).2 = er at SC
    by_cases e2 : after = -1
    · rw [if_pos e2, if_pos e2]
      subst e2
      clear hx hy e1 j
      go_enter Try.func52, Try.ntmps52
      go_wp2_with fail
      refine SC.out.mono ?_
      rintro e w2 ⟨rfl, l2, k2⟩
      have hb2 := k2.keep HB.out HO.out.q.2.2
      have d2 : w2.cell? ⟨h.q, 2, none⟩ = some (.int .i64 l) := by rw [blk_cell hb2]; rfl
      have y2 := blk_frozen hb2 2
      have R : Hid (Joined w a h s1 f at_ (.returned (.tuple #[])) (w2.setCell ⟨h.q, 2, none⟩ (.int .i64 at_))) := ⟨rfl, lies_q1 l2 HO.out 2 _, head_set2 hb2, (k2.mono fun _ _ => .inl).trans (Chg.setCell _ _ _ (.inr rfl))⟩
      clear l2 k2 hb2
      go_wp2
      go_end0
      exact R.out
    · rw [if_neg e2, if_neg e2]
      have t2 : (after == -1) = false := by rw [beq_eq_false_iff_ne]; exact e2
      have S2 : Hid (∀ W, Lies W a s1 → Calls Try.prog 53 #[(.pointer (some ⟨a.g, 0, none⟩)), (.int .i64 after), (.int .i64 1), (.int .i64 at_)] W (Now W a (itemSet s1 after 1 at_).1 (itemSet s1 after 1 at_).2)) := fun W h => set_calls h after 1 at_ hy hx
      generalize (itemSet s1 after 1 at_).1 = s2 at S2 ⊢
      generalize (itemSet s1 after 1 at_).2 = er2 at S2
      clear hx hy e1 e2 j
      go_enter Try.func52, Try.ntmps52
      go_wp2_with fail
      refine SC.out.mono ?_
      rintro e w2 ⟨rfl, l2, k2⟩
      have hb2 := k2.keep HB.out HO.out.q.2.2
      have d0 : w2.cell? ⟨h.q, 0, none⟩ = some (.pointer (some ⟨a.g, 0, none⟩)) := by rw [blk_cell hb2]; rfl
      have HB2 := Lib.hid hb2
      have SC2 := Lib.hid (S2.out w2 l2)
      have K2 := Lib.hid k2
      clear l2 k2 hb2 S2
      go_wp2_with fail
      refine SC2.out.mono ?_
      rintro e w3 ⟨rfl, l3, k3⟩
      have R : Hid (Joined w a h s2 f l (.returned (.tuple #[])) w3) := ⟨rfl, l3, k3.keep HB2.out HO.out.q.2.2, (K2.out.trans k3).mono fun _ _ => .inl⟩
      clear l3 k3
      go_wp2
      go_end0
      exact R.out
end Go.Proofs.Ytfhffffdhlofgaa.Links
