import Derived.Test.YtmffdlebahdihaaGd
import Derived.Test.YtmffdlebahdihaaGa
import Derived.RangeFuncNested
import Derived.RangeFuncBound
import Derived.RangeFuncCalls
import Derived.RangeFuncLeaves
import Derived.RangeFuncBox
import Derived.Shelf.Abstract
import Derived.Shelf.RegionOpen
import Derived.WalkKit
import Derived.OwnWalkIn
import Derived.TacticsInMore
import Derived.LoopNIn
import Derived.LoopIn
import Derived.Maps.AppendAt
/- The program's queue in memory, and what its functions do: New, join, put, Push, Insert, Remove, Tail, Before, Has, Len. -/
namespace Go.Proofs.Ytmffdlebahdihaa.Links
open Go Go.RowKit Go.Proofs.Ytmffdlebahdihaa.Mem Go.Proofs.Ytmffdlebahdihaa.CodecPure Go.Proofs.Ytmffdlebahdihaa.ArenaPure Go.Proofs.Ytmffdlebahdihaa.Codec Go.Proofs.Ytmffdlebahdihaa.Arena Go.Proofs.Ytmffdlebahdihaa.Item
set_option linter.unusedVariables false
set_option maxRecDepth 100000
variable {w w' : World} {a : Ar} {s : St}
/-- a queue's header and its map -/
structure Qh where
  q : Nat
  m : Nat
/-- the header's cells -/
def qcells (a : Ar) (h : Qh) (f l : Int) : List Value := [.pointer (some ⟨a.g, 0, none⟩), .int .i64 f, .int .i64 l, .map (some h.m)]
structure Qout (a : Ar) (h : Qh) : Prop where
  q : h.q ≠ a.g ∧ h.q ≠ a.ps ∧ h.q ∉ a.pb
  m : h.m ≠ a.g ∧ h.m ≠ a.ps ∧ h.m ∉ a.pb
  qm : h.q ≠ h.m
structure QLies (w : World) (a : Ar) (h : Qh) (s : St) (L : List Int) : Prop where
  lies : Lies w a s
  li : LI s L
  head : w.heap[h.q]? = some (.cells (qcells a h (L.headD (-1)) (L.getLastD (-1))).toArray 144 (0, 0))
  set : MSet w h.m L
  out : Qout a h
variable {h : Qh} {L : List Int}
/-- the blocks that a queue's functions write -/
def Q2 (a : Ar) (h : Qh) (x : Nat) : Prop := x ∈ a.pb ∨ x = h.q ∨ x = h.m
theorem QLies.fresh (k : QLies w a h s L) (hc : Chg (fun _ => False) w w') : QLies w' a h s L :=
  ⟨k.lies.chg hc id id fun _ _ => id, k.li, hc.keep k.head id, k.set.chg hc id, k.out⟩
theorem QLies.c0 (k : QLies w a h s L) : w.cell? ⟨h.q, 0, none⟩ = some (.pointer (some ⟨a.g, 0, none⟩)) := by rw [blk_cell k.head]; rfl
theorem QLies.c1 (k : QLies w a h s L) : w.cell? ⟨h.q, 1, none⟩ = some (.int .i64 (L.headD (-1))) := by rw [blk_cell k.head]; rfl
theorem QLies.c2 (k : QLies w a h s L) : w.cell? ⟨h.q, 2, none⟩ = some (.int .i64 (L.getLastD (-1))) := by rw [blk_cell k.head]; rfl
theorem QLies.c3 (k : QLies w a h s L) : w.cell? ⟨h.q, 3, none⟩ = some (.map (some h.m)) := by rw [blk_cell k.head]; rfl
theorem zeroBool (w : World) : (zeroValue 4).run Try.prog w = .ok (.bool false) w := by kernel_rfl
theorem QLies.look (k : QLies w a h s L) (n : Int) : (Instr.lookup 142 (.map (some h.m)) (.int .i64 n) false).run Try.prog w = .ok (.bool (decide (n ∈ L))) w :=
  k.set.lookup Try.underlying142 Try.underlying3 (zeroBool w) n

/-! ### join -/
def j1 (s : St) (at_ after : Int) : St := if at_ = -1 then s else (itemSet s at_ 2 after).1
def j2 (s : St) (at_ after : Int) : St := if after = -1 then j1 s at_ after else (itemSet (j1 s at_ after) after 1 at_).1
def jf (f at_ after : Int) : Int := if at_ = -1 then after else f
def jl (l at_ after : Int) : Int := if after = -1 then at_ else l
/-- no answer; the arena, the header's two ends are so now -/
def Joined (w : World) (a : Ar) (h : Qh) (s' : St) (f l : Int) (e : Ending) (w' : World) : Prop :=
  e = .returned (.tuple #[]) ∧ Lies w' a s' ∧ w'.heap[h.q]? = some (.cells (qcells a h f l).toArray 144 (0, 0)) ∧ Chg (fun x => x ∈ a.pb ∨ x = h.q) w w'
def I64 (x : Int) : Prop := -9223372036854775808 ≤ x ∧ x ≤ 9223372036854775807
theorem head_set1 {f l v : Int} (hb : w.heap[h.q]? = some (.cells (qcells a h f l).toArray 144 (0, 0))) : (w.setCell ⟨h.q, 1, none⟩ (.int .i64 v)).heap[h.q]? = some (.cells (qcells a h v l).toArray 144 (0, 0)) := by
  rw [setCell_row hb, setRow_heap w _ _ _ _ (0, 0) hb]; rfl
theorem head_set2 {f l v : Int} (hb : w.heap[h.q]? = some (.cells (qcells a h f l).toArray 144 (0, 0))) : (w.setCell ⟨h.q, 2, none⟩ (.int .i64 v)).heap[h.q]? = some (.cells (qcells a h f v).toArray 144 (0, 0)) := by
  rw [setCell_row hb, setRow_heap w _ _ _ _ (0, 0) hb]; rfl
theorem lies_q1 (hl : Lies w a s) (ho : Qout a h) (k : Nat) (v : Value) : Lies (w.setCell ⟨h.q, k, none⟩ v) a s :=
  hl.chg (S := fun x => x = h.q) (Chg.setCell _ _ _ rfl) (fun e => ho.q.1 e.symm) (fun e => ho.q.2.1 e.symm) fun b hb e => ho.q.2.2 (e ▸ hb)
theorem join_calls (hl : Lies w a s) (ho : Qout a h) (f l at_ after : Int) (hb : w.heap[h.q]? = some (.cells (qcells a h f l).toArray 144 (0, 0))) (hx : I64 at_) (hy : I64 after) :
    Calls Try.prog 105 #[(.pointer (some ⟨h.q, 0, none⟩)), (.int .i64 at_), (.int .i64 after)] w (Joined w a h (j2 s at_ after) (jf f at_ after) (jl l at_ after)) := by
  unfold j2 jf jl
  have HB := Lib.hid hb
  have HL := Lib.hid hl
  have HO := Lib.hid ho
  have c0 : w.cell? ⟨h.q, 0, none⟩ = some (.pointer (some ⟨a.g, 0, none⟩)) := by rw [blk_cell hb]; rfl
  have c1 : w.cell? ⟨h.q, 1, none⟩ = some (.int .i64 f) := by rw [blk_cell hb]; rfl
  have c2 : w.cell? ⟨h.q, 2, none⟩ = some (.int .i64 l) := by rw [blk_cell hb]; rfl
  have z1 := blk_frozen hb 1
  have z2 := blk_frozen hb 2
  clear hb hl ho
  by_cases e1 : at_ = -1
  · rw [if_pos e1]
    subst e1
    by_cases e2 : after = -1
    · rw [if_pos e2, if_pos e2]
      subst e2
      have R : Hid (Joined w a h (j1 s (-1) (-1)) (-1) (-1) (.returned (.tuple #[])) ((w.setCell ⟨h.q, 1, none⟩ (.int .i64 (-1))).setCell ⟨h.q, 2, none⟩ (.int .i64 (-1)))) :=
        ⟨rfl, lies_q1 (lies_q1 HL.out HO.out 1 _) HO.out 2 _, head_set2 (head_set1 HB.out), (Chg.setCell _ _ _ (.inr rfl)).trans (Chg.setCell _ _ _ (.inr rfl))⟩
      clear hx hy
      go_enter Try.func105, Try.ntmps105
      go_wp2
      go_end0
      exact R.out
    · rw [if_neg e2, if_neg e2]
      have j : j1 s (-1) after = s := if_pos rfl
      rw [j]
      have t2 : (after == -1) = false := by rw [beq_eq_false_iff_ne]; exact e2
      have SC := Lib.hid (set_calls (lies_q1 HL.out HO.out 1 (.int .i64 after)) after 1 (-1) hy (by decide))
      generalize (itemSet s after 1 (-1)).1 = s' at SC ⊢
      generalize (itemSet s after 1 (-1)).2 = er at SC
      clear hx hy e2
      go_enter Try.func105, Try.ntmps105
      go_wp2_with fail
      refine SC.out.mono ?_
      rintro e w2 ⟨rfl, l2, k2⟩
      have R : Hid (Joined w a h s' after l (.returned (.tuple #[])) w2) := ⟨rfl, l2, k2.keep (head_set1 HB.out) HO.out.q.2.2, ((Chg.setCell _ _ _ (.inr rfl)).trans (k2.mono fun _ _ => .inl))⟩
      clear l2 k2
      go_wp2
      go_end0
      exact R.out
  · rw [if_neg e1]
    have t1 : (at_ == -1) = false := by rw [beq_eq_false_iff_ne]; exact e1
    have j : j1 s at_ after = (itemSet s at_ 2 after).1 := if_neg e1
    rw [j]
    have SC := Lib.hid (set_calls HL.out at_ 2 after hx hy)
    generalize (itemSet s at_ 2 after).1 = s1 at SC ⊢
    generalize (itemSet s at_ 2 after).2 = er at SC
    by_cases e2 : after = -1
    · rw [if_pos e2, if_pos e2]
      subst e2
      clear hx hy e1 j
      go_enter Try.func105, Try.ntmps105
      go_wp2_with fail
      refine SC.out.mono ?_
      rintro e w2 ⟨rfl, l2, k2⟩
      have hb2 := k2.keep HB.out HO.out.q.2.2
      have d2 : w2.cell? ⟨h.q, 2, none⟩ = some (.int .i64 l) := by rw [blk_cell hb2]; rfl
      have y2 := blk_frozen hb2 2
      have R : Hid (Joined w a h s1 f at_ (.returned (.tuple #[])) (w2.setCell ⟨h.q, 2, none⟩ (.int .i64 at_))) := ⟨rfl, lies_q1 l2 HO.out 2 _, head_set2 hb2, (k2.mono fun _ _ => .inl).trans (Chg.setCell _ _ _ (.inr rfl))⟩
      clear l2 k2 hb2
      go_wp2
      go_end0
      exact R.out
    · rw [if_neg e2, if_neg e2]
      have t2 : (after == -1) = false := by rw [beq_eq_false_iff_ne]; exact e2
      have S2 : Hid (∀ W, Lies W a s1 → Calls Try.prog 38 #[(.pointer (some ⟨a.g, 0, none⟩)), (.int .i64 after), (.int .i64 1), (.int .i64 at_)] W (Now W a (itemSet s1 after 1 at_).1 (itemSet s1 after 1 at_).2)) := fun W h => set_calls h after 1 at_ hy hx
      generalize (itemSet s1 after 1 at_).1 = s2 at S2 ⊢
      generalize (itemSet s1 after 1 at_).2 = er2 at S2
      clear hx hy e1 e2 j
      go_enter Try.func105, Try.ntmps105
      go_wp2_with fail
      refine SC.out.mono ?_
      rintro e w2 ⟨rfl, l2, k2⟩
      have hb2 := k2.keep HB.out HO.out.q.2.2
      have d0 : w2.cell? ⟨h.q, 0, none⟩ = some (.pointer (some ⟨a.g, 0, none⟩)) := by rw [blk_cell hb2]; rfl
      have HB2 := Lib.hid hb2
      have SC2 := Lib.hid (S2.out w2 l2)
      have K2 := Lib.hid k2
      clear l2 k2 hb2 S2
      go_wp2_with fail
      refine SC2.out.mono ?_
      rintro e w3 ⟨rfl, l3, k3⟩
      have R : Hid (Joined w a h s2 f l (.returned (.tuple #[])) w3) := ⟨rfl, l3, k3.keep HB2.out HO.out.q.2.2, (K2.out.trans k3).mono fun _ _ => .inl⟩
      clear l3 k3
      go_wp2
      go_end0
      exact R.out
end Go.Proofs.Ytmffdlebahdihaa.Links

/- The program's queue: put, Push, Insert, Remove, Tail, Before, Has, Len, New. -/
namespace Go.Proofs.Ytmffdlebahdihaa.Links
open Go Go.RowKit Go.Proofs.Ytmffdlebahdihaa.Mem Go.Proofs.Ytmffdlebahdihaa.CodecPure Go.Proofs.Ytmffdlebahdihaa.ArenaPure Go.Proofs.Ytmffdlebahdihaa.Codec Go.Proofs.Ytmffdlebahdihaa.Arena Go.Proofs.Ytmffdlebahdihaa.Item
set_option linter.unusedVariables false
set_option maxRecDepth 100000
variable {w w' : World} {a : Ar} {h : Qh} {s : St} {L : List Int}
theorem sp_own (s : St) (y v : Int) : (sp s y v).own = s.own := by
  unfold sp setPlace
  split <;> rfl
theorem hdr_range {s : St} {x : Int} (hx : within s x 40) : ¬ (x < 0 ∨ 1024 * (s.own.length : Int) < x) := by
  obtain ⟨_, h1, h2, _⟩ := hx
  omega
theorem itemSet1 {s : St} {x : Int} (hx : within s x 40) (v : Int) : (itemSet s x 1 v).1 = sp s (x + 4) v := by
  unfold itemSet
  rw [if_neg (by decide), if_neg (hdr_range hx), if_pos (by decide)]; rfl
theorem itemSet2 {s : St} {x : Int} (hx : within s x 40) (v : Int) : (itemSet s x 2 v).1 = sp s (x + 8) v := by
  unfold itemSet
  rw [if_neg (by decide), if_neg (hdr_range hx), if_pos (by decide)]; rfl
theorem itemGet1 {s : St} {x : Int} (hx : within s x 40) : itemGet s x 1 = place s (x + 4) := by
  unfold itemGet
  rw [if_neg (by decide), if_neg (hdr_range hx), if_pos (by decide)]; rfl
theorem itemGet2 {s : St} {x : Int} (hx : within s x 40) : itemGet s x 2 = place s (x + 8) := by
  unfold itemGet
  rw [if_neg (by decide), if_neg (hdr_range hx), if_pos (by decide)]; rfl
theorem j1_eq {s : St} {x v : Int} (hx : x = -1 ∨ within s x 40) : j1 s x v = if x = -1 then s else sp s (x + 8) v := by
  unfold j1
  by_cases e : x = -1
  · rw [if_pos e, if_pos e]
  · rw [if_neg e, if_neg e, itemSet2 (hx.resolve_left e)]
theorem j1_own {s : St} {x v : Int} (hx : x = -1 ∨ within s x 40) : (j1 s x v).own = s.own := by
  rw [j1_eq hx]
  split
  · rfl
  · exact sp_own _ _ _
theorem j2_eq {s : St} {x y : Int} (hx : x = -1 ∨ within s x 40) (hy : y = -1 ∨ within s y 40) : j2 s x y = if y = -1 then j1 s x y else sp (j1 s x y) (y + 4) x := by
  unfold j2
  by_cases e : y = -1
  · rw [if_pos e, if_pos e]
  · rw [if_neg e, if_neg e, itemSet1 ((within_own (j1_own hx) y 40).2 (hy.resolve_left e))]
theorem j2_own {s : St} {x y : Int} (hx : x = -1 ∨ within s x 40) (hy : y = -1 ∨ within s y 40) : (j2 s x y).own = s.own := by
  rw [j2_eq hx hy]
  split
  · exact j1_own hx
  · rw [sp_own]; exact j1_own hx
theorem join_put {s : St} {p x n : Int} (hp : p = -1 ∨ within s p 40) (hx : within s x 40) (hn : n = -1 ∨ within s n 40) (h0 : x ≠ -1) : j2 (j2 s p x) x n = putS s p x n := by
  have o1 := j2_own hp (.inr hx)
  rw [j2_eq (.inr ((within_own o1 x 40).2 hx)) (hn.imp id fun h => (within_own o1 n 40).2 h), j1_eq (.inr ((within_own o1 x 40).2 hx)), if_neg h0, j2_eq hp (.inr hx), if_neg h0, j1_eq hp]
  rfl
theorem join_del {s : St} {p x n : Int} (hp : p = -1 ∨ within s p 40) (hx : within s x 40) (hn : n = -1 ∨ within s n 40) : (itemSet (itemSet (j2 s p n) x 1 (-1)).1 x 2 (-1)).1 = delS s p x n := by
  have o1 := j2_own hp hn
  have hx1 := (within_own o1 x 40).2 hx
  rw [itemSet1 hx1, itemSet2 ((within_own (sp_own _ _ _) x 40).2 hx1), j2_eq hp hn, j1_eq hp]
  rfl
theorem last_ends {s : St} {A C : List Int} (hl : LI s (A ++ C)) : A.getLastD (-1) = -1 ∨ within s (A.getLastD (-1)) 40 := by
  rcases List.eq_nil_or_concat A with rfl | ⟨A', y, rfl⟩
  · exact .inl rfl
  · rw [List.concat_eq_append] at *
    have el : (A' ++ [y]).getLastD (-1) = y := by simp
    rw [el]
    exact .inr (hl.hdr y (by simp))
theorem head_ends {s : St} {A C : List Int} (hl : LI s (A ++ C)) : C.headD (-1) = -1 ∨ within s (C.headD (-1)) 40 := by
  cases C with
  | nil => exact .inl rfl
  | cons z C' => exact .inr (hl.hdr z (by simp))
theorem headD_put (A C : List Int) (x : Int) (hp : A.getLastD (-1) = -1 ↔ A = []) (h0 : x ≠ -1) (n : Int) : jf (jf ((A ++ C).headD (-1)) (A.getLastD (-1)) x) x n = (A ++ x :: C).headD (-1) := by
  unfold jf
  rw [if_neg h0]
  cases A with
  | nil => rw [if_pos (hp.2 rfl)]; rfl
  | cons y A' => rw [if_neg (fun e => by have := hp.1 e; cases this)]; rfl
theorem lastD_put (A C : List Int) (x p : Int) (hn : C.headD (-1) = -1 ↔ C = []) (h0 : x ≠ -1) : jl (jl ((A ++ C).getLastD (-1)) p x) x (C.headD (-1)) = (A ++ x :: C).getLastD (-1) := by
  unfold jl
  rw [if_neg h0]
  cases C with
  | nil => rw [if_pos (hn.2 rfl)]; simp
  | cons y C' => rw [if_neg (fun e => by have := hn.1 e; cases this)]; simp
theorem getLastD_mem (A : List Int) (hA : A ≠ []) : A.getLastD (-1) ∈ A := by
  rcases List.eq_nil_or_concat A with rfl | ⟨A', y, rfl⟩
  · exact absurd rfl hA
  · rw [List.concat_eq_append]
    have el : (A' ++ [y]).getLastD (-1) = y := by simp
    rw [el]; simp
theorem last_none {s : St} {A C : List Int} (hl : LI s (A ++ C)) : A.getLastD (-1) = -1 ↔ A = [] := by
  constructor
  · intro e
    rcases List.eq_nil_or_concat A with rfl | ⟨A', y, rfl⟩
    · rfl
    · rw [List.concat_eq_append] at *
      have el : (A' ++ [y]).getLastD (-1) = y := by simp
      rw [el] at e
      have := (hl.pl (x := y) (by simp)).2
      omega
  · rintro rfl; rfl
theorem head_none {s : St} {A C : List Int} (hl : LI s (A ++ C)) : C.headD (-1) = -1 ↔ C = [] := by
  cases C with
  | nil => simp
  | cons z C' =>
    have := (hl.pl (x := z) (by simp)).2
    simp; omega
theorem pl_i64 {x : Int} (h : Pl x) : I64 x := by unfold Pl at h; unfold I64; omega
theorem ends_i64 {s : St} (hs : Ok s) {x : Int} (h : x = -1 ∨ within s x 40) : I64 x := by
  rcases h with rfl | h
  · exact ⟨by decide, by decide⟩
  · exact pl_i64 (hdr_pl hs h).1
/-- one answer, an error; the queue is so now -/
def Qok (w : World) (a : Ar) (h : Qh) (s' : St) (L' : List Int) (err : Int) (e : Ending) (w' : World) : Prop :=
  e = .returned (.int .i64 err) ∧ QLies w' a h s' L' ∧ Chg (Q2 a h) w w'
theorem put_no (k : QLies w a h s L) (p x n : Int) (hx : I64 x) (hw : ¬ within s x 40) : Calls Try.prog 118 #[(.pointer (some ⟨h.q, 0, none⟩)), (.int .i64 p), (.int .i64 x), (.int .i64 n)] w (Qok w a h s L 1) := by
  have c0 := k.c0
  have K := Lib.hid k
  have RC := read_calls k.lies x 40 hx
  have e : readA s x 40 = ([], 1) := if_neg hw
  rw [e] at RC
  have RC := Lib.hid RC
  clear k hw e hx
  go_enter Try.func118, Try.ntmps118
  go_wp2_with fail
  refine RC.out.mono ?_
  rintro e w1 ⟨A1, c1, rfl, o1, k1⟩
  have R : Hid (Qok w a h s L 1 (.returned (.int .i64 1)) w1) := ⟨rfl, K.out.fresh k1, k1.mono fun _ _ h => h.elim⟩
  clear o1 k1
  go_wp2
  go_ret
  exact R.out
theorem put_twice (k : QLies w a h s L) (p x n : Int) (hx : x ∈ L) : Calls Try.prog 118 #[(.pointer (some ⟨h.q, 0, none⟩)), (.int .i64 p), (.int .i64 x), (.int .i64 n)] w (Qok w a h s L 4) := by
  have c0 := k.c0
  have K := Lib.hid k
  have hw := k.li.hdr x hx
  have RC := read_calls k.lies x 40 (pl_i64 (k.li.pl hx).1)
  have e : readA s x 40 = (got s x 40, 0) := if_pos hw
  rw [e] at RC
  have RC := Lib.hid RC
  have HX := Lib.hid hx
  clear k hw e hx
  go_enter Try.func118, Try.ntmps118
  go_wp2_with fail
  refine RC.out.mono ?_
  rintro e w1 ⟨A1, c1, rfl, o1, k1⟩
  have K1 := Lib.hid (K.out.fresh k1)
  have R : Hid (Qok w a h s L 4 (.returned (.int .i64 4)) w1) := ⟨rfl, K1.out, k1.mono fun _ _ h => h.elim⟩
  have lk := K1.out.look x
  rw [decide_eq_true HX.out] at lk
  have d3 := K1.out.c3
  generalize got s x 40 = l1
  clear o1 k1 c0
  go_wp2
  go_ret
  exact R.out
theorem put_ok {A C : List Int} (k : QLies w a h s (A ++ C)) (x : Int) (hw : within s x 40) (hap : ∀ y ∈ A ++ C, ArenaPure.Apart y x) :
    Calls Try.prog 118 #[(.pointer (some ⟨h.q, 0, none⟩)), (.int .i64 (A.getLastD (-1))), (.int .i64 x), (.int .i64 (C.headD (-1)))] w (Qok w a h (putS s (A.getLastD (-1)) x (C.headD (-1))) (A ++ x :: C) 0) := by
  have hs := k.li.ok
  have px := hdr_pl hs hw
  have h0 : x ≠ -1 := by omega
  have hp := last_ends k.li
  have hn := head_ends k.li
  have hni : x ∉ A ++ C := fun hm => by have := hap x hm; unfold ArenaPure.Apart at this; omega
  obtain ⟨L1, K1⟩ := put_seg k.li hw hap
  have E := join_put hp hw hn h0
  have EF := headD_put A C x (last_none k.li) h0 (C.headD (-1))
  have EL := lastD_put A C x (A.getLastD (-1)) (head_none k.li) h0
  have J1 := fun (W : World) (hl : Lies W a s) (hb : W.heap[h.q]? = some (.cells (qcells a h ((A ++ C).headD (-1)) ((A ++ C).getLastD (-1))).toArray 144 (0, 0))) => join_calls hl k.out _ _ (A.getLastD (-1)) x hb (ends_i64 hs hp) (pl_i64 px.1)
  have J2 := fun (W : World) (hl : Lies W a (j2 s (A.getLastD (-1)) x)) (hb : W.heap[h.q]? = some (.cells (qcells a h (jf ((A ++ C).headD (-1)) (A.getLastD (-1)) x) (jl ((A ++ C).getLastD (-1)) (A.getLastD (-1)) x)).toArray 144 (0, 0))) => join_calls hl k.out _ _ x (C.headD (-1)) hb (pl_i64 px.1) (ends_i64 hs hn)
  rw [E, EF, EL] at J2
  have F : Hid (∀ W, Lies W a (putS s (A.getLastD (-1)) x (C.headD (-1))) → W.heap[h.q]? = some (.cells (qcells a h ((A ++ x :: C).headD (-1)) ((A ++ x :: C).getLastD (-1))).toArray 144 (0, 0)) → MSet W h.m (x :: (A ++ C)) → Chg (Q2 a h) w W → Qok w a h (putS s (A.getLastD (-1)) x (C.headD (-1))) (A ++ x :: C) 0 (.returned (.int .i64 0)) W) := fun W hl hb hm hc => ⟨rfl, ⟨hl, L1, hb, hm.perm List.perm_middle.symm, k.out⟩, hc⟩
  have c0 := k.c0
  have RC := read_calls k.lies x 40 (pl_i64 px.1)
  have e : readA s x 40 = (got s x 40, 0) := if_pos hw
  rw [e] at RC
  have RC := Lib.hid RC
  have K := Lib.hid k
  have NI := Lib.hid hni
  have J1 := Lib.hid J1
  have J2 := Lib.hid J2
  generalize putS s (A.getLastD (-1)) x (C.headD (-1)) = s' at F J2 L1 K1 E ⊢
  generalize A.getLastD (-1) = p at *
  generalize C.headD (-1) = n at *
  clear k hw e hap hs px h0 hp hn hni L1 K1 E EF EL
  go_enter Try.func118, Try.ntmps118
  go_wp2_with fail
  refine RC.out.mono ?_
  rintro e w1 ⟨A1, c1, rfl, o1, k1⟩
  have K1 := Lib.hid (K.out.fresh k1)
  have C1 : Hid (Chg (Q2 a h) w w1) := k1.mono fun _ _ h => h.elim
  have lk := K1.out.look x
  rw [decide_eq_false NI.out] at lk
  have d3 := K1.out.c3
  generalize got s x 40 = l1
  clear o1 k1 c0
  go_wp2_with fail
  refine (J1.out w1 K1.out.lies K1.out.head).mono ?_
  rintro e w2 ⟨rfl, l2, b2, k2⟩
  have C2 : Hid (Chg (Q2 a h) w w2) := C1.out.trans (k2.mono fun i _ hi => hi.elim .inl fun e => .inr (.inl e))
  have M2 := Lib.hid (K1.out.set.chg k2 (fun e => e.elim K1.out.out.m.2.2 fun e => K1.out.out.qm e.symm))
  have JJ := Lib.hid (J2.out w2 l2 b2)
  clear l2 b2 k2 lk d3
  go_wp2_with fail
  refine JJ.out.mono ?_
  rintro e w3 ⟨rfl, l3, b3, k3⟩
  have C3 : Hid (Chg (Q2 a h) w w3) := C2.out.trans (k3.mono fun i _ hi => hi.elim .inl fun e => .inr (.inl e))
  have M3 := M2.out.chg k3 (fun e => e.elim K1.out.out.m.2.2 fun e => K1.out.out.qm e.symm)
  obtain ⟨w4, run4, M4, k4⟩ := M3.update Try.underlying142 Try.underlying3 x NI.out
  have d3 : w3.cell? ⟨h.q, 3, none⟩ = some (.map (some h.m)) := by rw [blk_cell b3]; rfl
  have R := Lib.hid (F.out w4 (l3.chg k4 (fun e => K1.out.out.m.1 e.symm) (fun e => K1.out.out.m.2.1 e.symm) fun b hb e => K1.out.out.m.2.2 (e ▸ hb)) (k4.keep b3 K1.out.out.qm) M4 (C3.out.trans (k4.mono fun i _ e => .inr (.inr e))))
  clear l3 b3 k3 M3 M4 k4
  go_wp2
  go_ret
  exact R.out
end Go.Proofs.Ytmffdlebahdihaa.Links

/- The program's queue: Push, Insert, Remove, Tail, Before, Has, Len, New. -/
namespace Go.Proofs.Ytmffdlebahdihaa.Links
open Go Go.RowKit Go.Proofs.Ytmffdlebahdihaa.Mem Go.Proofs.Ytmffdlebahdihaa.CodecPure Go.Proofs.Ytmffdlebahdihaa.ArenaPure Go.Proofs.Ytmffdlebahdihaa.Codec Go.Proofs.Ytmffdlebahdihaa.Arena Go.Proofs.Ytmffdlebahdihaa.Item
set_option linter.unusedVariables false
set_option maxRecDepth 100000
variable {w w' : World} {a : Ar} {h : Qh} {s : St} {L : List Int}
/-! ### plain words on lists -/
/-- x laid in right behind b -/
def ins (b x : Int) : List Int → List Int
  | [] => []
  | y :: ys => if y = b then y :: x :: ys else y :: ins b x ys
/-- what comes behind b -/
def nextOf (b : Int) : List Int → Int
  | [] => -1
  | y :: ys => if y = b then ys.headD (-1) else nextOf b ys
/-- what comes ahead of b -/
def prevL (b : Int) (p : Int) : List Int → Int
  | [] => -1
  | y :: ys => if y = b then p else prevL b y ys
theorem split_at (b : Int) : ∀ (L : List Int), b ∈ L → ∃ A C, L = A ++ b :: C ∧ b ∉ A ∧ (∀ x, ins b x L = A ++ b :: x :: C) ∧ nextOf b L = C.headD (-1) ∧ (∀ p, prevL b p L = A.getLastD p) ∧ L.erase b = A ++ C := by
  intro L
  induction L with
  | nil => intro h; simp at h
  | cons y ys ih =>
    intro h
    by_cases e : y = b
    · subst e
      exact ⟨[], ys, rfl, by simp, fun x => by simp [ins], by simp [nextOf], fun p => by simp [prevL], by simp⟩
    · have hm : b ∈ ys := by
        rcases List.mem_cons.1 h with h | h
        · exact absurd h.symm e
        · exact h
      obtain ⟨A, C, h1, h2, h3, h4, h5, h6⟩ := ih hm
      refine ⟨y :: A, C, by rw [h1]; rfl, ?_, fun x => by simp [ins, e, h3], by simp [nextOf, e, h4], fun p => ?_, ?_⟩
      · simp only [List.mem_cons, not_or]
        exact ⟨fun q => e q.symm, h2⟩
      · simp only [prevL, if_neg e, h5]
        exact List.getLastD_cons.symm
      · rw [List.erase_cons_tail (by simpa using e), h6]; rfl
/-! ### Push, Insert, Remove -/
def pushed (s : St) (L : List Int) (x : Int) : St × List Int × Int :=
  if within s x 40 then if x ∈ L then (s, L, 4) else (putS s (-1) x (L.headD (-1)), x :: L, 0) else (s, L, 1)
def insTail (s : St) (L : List Int) (b x : Int) : St × List Int × Int :=
  if within s x 40 then if x ∈ L then (s, L, 4) else (putS s b x (nextOf b L), ins b x L, 0) else (s, L, 1)
def inserted (s : St) (L : List Int) (b x : Int) : St × List Int × Int :=
  if b ∈ L then insTail s L b x else (s, L, 3)
def removed (s : St) (L : List Int) (x : Int) : St × List Int × Int :=
  if x ∈ L then (delS s (prevL x (-1) L) x (nextOf x L), L.erase x, 0) else (s, L, 3)
theorem push_calls (k : QLies w a h s L) (x : Int) (hx : I64 x) (hap : within s x 40 → x ∉ L → ∀ y ∈ L, ArenaPure.Apart y x) :
    Calls Try.prog 102 #[(.pointer (some ⟨h.q, 0, none⟩)), (.int .i64 x)] w (Qok w a h (pushed s L x).1 (pushed s L x).2.1 (pushed s L x).2.2) := by
  have P : Calls Try.prog 118 #[(.pointer (some ⟨h.q, 0, none⟩)), (.int .i64 (-1)), (.int .i64 x), (.int .i64 (L.headD (-1)))] w (Qok w a h (pushed s L x).1 (pushed s L x).2.1 (pushed s L x).2.2) := by
    unfold pushed
    by_cases hw : within s x 40
    · rw [if_pos hw]
      by_cases hm : x ∈ L
      · rw [if_pos hm]; exact put_twice k _ _ _ hm
      · rw [if_neg hm]
        exact put_ok (A := []) (C := L) k x hw (hap hw hm)
    · rw [if_neg hw]; exact put_no k _ _ _ hx hw
  have c1 := k.c1
  replace P := Lib.hid P
  generalize (pushed s L x).1 = s' at P ⊢
  generalize (pushed s L x).2.1 = L' at P ⊢
  generalize (pushed s L x).2.2 = er at P ⊢
  generalize L.headD (-1) = f at P c1
  clear k hap hx
  go_enter Try.func102, Try.ntmps102
  go_wp2_with fail
  refine P.out.mono ?_
  rintro e w1 ⟨rfl, k1, k2⟩
  have R : Hid (Qok w a h s' L' er (.returned (.int .i64 er)) w1) := ⟨rfl, k1, k2⟩
  clear k1 k2
  go_wp2
  go_ret
  exact R.out
theorem remove_calls (k : QLies w a h s L) (x : Int) : Calls Try.prog 80 #[(.pointer (some ⟨h.q, 0, none⟩)), (.int .i64 x)] w (Qok w a h (removed s L x).1 (removed s L x).2.1 (removed s L x).2.2) := by
  unfold removed
  have c3 := k.c3
  have lk := k.look x
  by_cases hm : x ∈ L
  · rw [if_pos hm]
    rw [decide_eq_true hm] at lk
    obtain ⟨A, C, hL, hA, h3, h4, h5, h6⟩ := split_at x L hm
    rw [h4, h5, h6]
    subst hL
    have hs := k.li.ok
    have fl := k.li.fields
    have hw := k.li.hdr x hm
    have px := hdr_pl hs hw
    have e0 : (A ++ x :: C) = (A ++ [x]) ++ C := by simp
    have hp := last_ends (A := A) k.li
    have hn : C.headD (-1) = -1 ∨ within s (C.headD (-1)) 40 := head_ends (A := A ++ [x]) (by rw [← e0]; exact k.li)
    have hpn := last_none (A := A) k.li
    have hnn : C.headD (-1) = -1 ↔ C = [] := head_none (A := A ++ [x]) (by rw [← e0]; exact k.li)
    obtain ⟨L1, K1, -, -⟩ := del_seg k.li
    have E := join_del hp hw hn
    have o1 := j2_own hp hn
    have GC1 := Lib.hid (fun (W : World) (hl : Lies W a s) => get_calls hl x 1 (pl_i64 px.1))
    have GC2 := Lib.hid (fun (W : World) (hl : Lies W a s) => get_calls hl x 2 (pl_i64 px.1))
    rw [itemGet1 hw, fl.1] at GC1
    rw [itemGet2 hw, fl.2] at GC2
    have J := fun (W : World) (hl : Lies W a s) (hb : W.heap[h.q]? = some (.cells (qcells a h ((A ++ x :: C).headD (-1)) ((A ++ x :: C).getLastD (-1))).toArray 144 (0, 0))) => join_calls hl k.out _ _ (A.getLastD (-1)) (C.headD (-1)) hb (ends_i64 hs hp) (ends_i64 hs hn)
    have EF : jf ((A ++ x :: C).headD (-1)) (A.getLastD (-1)) (C.headD (-1)) = (A ++ C).headD (-1) := by
      unfold jf
      cases A with
      | nil => rw [if_pos (hpn.2 rfl)]; rfl
      | cons y A' => rw [if_neg (fun e => by have := hpn.1 e; cases this)]; rfl
    have EL : jl ((A ++ x :: C).getLastD (-1)) (A.getLastD (-1)) (C.headD (-1)) = (A ++ C).getLastD (-1) := by
      unfold jl
      cases C with
      | nil => rw [if_pos (hnn.2 rfl)]; simp
      | cons y C' => rw [if_neg (fun e => by have := hnn.1 e; cases this)]; simp
    rw [EF, EL] at J
    have J := Lib.hid J
    have S1 := Lib.hid (fun (W : World) (hl : Lies W a (j2 s (A.getLastD (-1)) (C.headD (-1)))) => set_calls hl x 1 (-1) (pl_i64 px.1) (by decide))
    have S2 := Lib.hid (fun (W : World) (hl : Lies W a (itemSet (j2 s (A.getLastD (-1)) (C.headD (-1))) x 1 (-1)).1) => set_calls hl x 2 (-1) (pl_i64 px.1) (by decide))
    rw [E] at S2
    have F : Hid (∀ W, Lies W a (delS s (A.getLastD (-1)) x (C.headD (-1))) → W.heap[h.q]? = some (.cells (qcells a h ((A ++ C).headD (-1)) ((A ++ C).getLastD (-1))).toArray 144 (0, 0)) → MSet W h.m ((A ++ x :: C).erase x) → Chg (Q2 a h) w W → Qok w a h (delS s (A.getLastD (-1)) x (C.headD (-1))) (A ++ C) 0 (.returned (.int .i64 0)) W) := fun W hl hb hm2 hc => ⟨rfl, ⟨hl, L1, hb, by rw [h6] at hm2; exact hm2, k.out⟩, hc⟩
    have c0 := k.c0
    have K := Lib.hid k
    have HM := Lib.hid hm
    generalize delS s (A.getLastD (-1)) x (C.headD (-1)) = s' at F S2 L1 K1 E ⊢
    generalize j2 s (A.getLastD (-1)) (C.headD (-1)) = sj at *
    generalize A.getLastD (-1) = p at *
    generalize C.headD (-1) = n at *
    clear k hm hA h3 h4 h5 h6 fl hw px e0 hp hn hpn hnn L1 K1 E o1 EF EL hs
    go_enter Try.func80, Try.ntmps80
    go_wp2_with fail
    refine (GC1.out w K.out.lies).mono ?_
    rintro e w1 ⟨rfl, k1⟩
    have K1 := Lib.hid (K.out.fresh k1)
    have C1 : Hid (Chg (Q2 a h) w w1) := k1.mono fun _ _ h => h.elim
    have d0 := K1.out.c0
    clear k1 lk c0 c3
    go_wp2_with fail
    refine (GC2.out w1 K1.out.lies).mono ?_
    rintro e w2 ⟨rfl, k2⟩
    have K2 := Lib.hid (K1.out.fresh k2)
    have C2 : Hid (Chg (Q2 a h) w w2) := C1.out.trans (k2.mono fun _ _ h => h.elim)
    clear k2 d0 GC1 GC2
    go_wp2_with fail
    refine (J.out w2 K2.out.lies K2.out.head).mono ?_
    rintro e w3 ⟨rfl, l3, b3, k3⟩
    have C3 : Hid (Chg (Q2 a h) w w3) := C2.out.trans (k3.mono fun i _ hi => hi.elim .inl fun e => .inr (.inl e))
    have M3 := Lib.hid (K2.out.set.chg k3 (fun e => e.elim K.out.out.m.2.2 fun e => K.out.out.qm e.symm))
    have d0 : w3.cell? ⟨h.q, 0, none⟩ = some (.pointer (some ⟨a.g, 0, none⟩)) := by rw [blk_cell b3]; rfl
    have SS1 := Lib.hid (S1.out w3 l3)
    have B3 := Lib.hid b3
    clear l3 b3 k3 J S1
    go_wp2_with fail
    refine SS1.out.mono ?_
    rintro e w4 ⟨rfl, l4, k4⟩
    have C4 : Hid (Chg (Q2 a h) w w4) := C3.out.trans (k4.mono fun i _ hi => .inl hi)
    have M4 := Lib.hid (M3.out.chg k4 K.out.out.m.2.2)
    have b4 := k4.keep B3.out K.out.out.q.2.2
    have e0 : w4.cell? ⟨h.q, 0, none⟩ = some (.pointer (some ⟨a.g, 0, none⟩)) := by rw [blk_cell b4]; rfl
    have SS2 := Lib.hid (S2.out w4 l4)
    have B4 := Lib.hid b4
    clear l4 b4 k4 S2 SS1 d0
    go_wp2_with fail
    refine SS2.out.mono ?_
    rintro e w5 ⟨rfl, l5, k5⟩
    have C5 : Hid (Chg (Q2 a h) w w5) := C4.out.trans (k5.mono fun i _ hi => .inl hi)
    have M5 := M4.out.chg k5 K.out.out.m.2.2
    have b5 := k5.keep B4.out K.out.out.q.2.2
    have g3 : w5.cell? ⟨h.q, 3, none⟩ = some (.map (some h.m)) := by rw [blk_cell b5]; rfl
    obtain ⟨w6, run6, M6, k6⟩ := M5.delete Try.underlying142 Try.underlying3 x HM.out 0 3
    have R := Lib.hid (F.out w6 (l5.chg k6 (fun e => K.out.out.m.1 e.symm) (fun e => K.out.out.m.2.1 e.symm) fun b hb e => K.out.out.m.2.2 (e ▸ hb)) (k6.keep b5 K.out.out.qm) M6 (C5.out.trans (k6.mono fun i _ e => .inr (.inr e))))
    clear l5 b5 k5 M5 M6 k6 e0 SS2
    go_wp2
    go_ret
    exact R.out
  · rw [if_neg hm]
    rw [decide_eq_false hm] at lk
    have R : Hid (Qok w a h s L 3 (.returned (.int .i64 3)) w) := ⟨rfl, k, Chg.refl _ _⟩
    clear k hm
    go_enter Try.func80, Try.ntmps80
    go_wp2
    go_ret
    exact R.out
/-! ### what only reads -/
theorem has_calls (k : QLies w a h s L) (x : Int) : Calls Try.prog 101 #[(.pointer (some ⟨h.q, 0, none⟩)), (.int .i64 x)] w fun e w' => e = .returned (.bool (decide (x ∈ L))) ∧ w = w' := by
  have c3 := k.c3
  have lk := k.look x
  generalize decide (x ∈ L) = b at lk ⊢
  clear k
  go_enter Try.func101, Try.ntmps101
  go_wp2
  go_ret
  exact ⟨rfl, rfl⟩
theorem len_calls (k : QLies w a h s L) : Calls Try.prog 64 #[(.pointer (some ⟨h.q, 0, none⟩))] w fun e w' => e = .returned (.int .i64 L.length) ∧ w = w' := by
  have c3 := k.c3
  have ln := k.set.len Try.underlying142 3
  generalize L.length = n at ln ⊢
  clear k
  go_enter Try.func64, Try.ntmps64
  go_wp2
  go_ret
  exact ⟨rfl, rfl⟩
def tail (L : List Int) : Int × Bool := if L = [] then (0, false) else (L.getLastD (-1), true)
theorem tail_calls (k : QLies w a h s L) : Calls Try.prog 65 #[(.pointer (some ⟨h.q, 0, none⟩))] w fun e w' => e = .returned (.tuple #[.int .i64 (tail L).1, .bool (tail L).2]) ∧ w = w' := by
  unfold tail
  have c2 := k.c2
  have e : L.getLastD (-1) = -1 ↔ L = [] := last_none (A := L) (C := []) (by rw [List.append_nil]; exact k.li)
  by_cases hL : L = []
  · rw [if_pos hL]
    rw [e.2 hL] at c2
    clear k e hL
    go_enter Try.func65, Try.ntmps65
    go_wp2
    go_ret2
    exact ⟨rfl, rfl⟩
  · rw [if_neg hL]
    have t : (L.getLastD (-1) == -1) = false := by rw [beq_eq_false_iff_ne]; exact fun q => hL (e.1 q)
    generalize L.getLastD (-1) = n at c2 t ⊢
    clear k e hL
    go_enter Try.func65, Try.ntmps65
    go_wp2
    go_ret2
    exact ⟨rfl, rfl⟩
def before (L : List Int) (x : Int) : Int × Bool := if x ∈ L ∧ x ≠ L.headD (-1) then (prevL x (-1) L, true) else (0, false)
theorem before_calls (k : QLies w a h s L) (x : Int) : Calls Try.prog 79 #[(.pointer (some ⟨h.q, 0, none⟩)), (.int .i64 x)] w (fun e w' => e = .returned (.tuple #[.int .i64 (before L x).1, .bool (before L x).2]) ∧ Chg (fun _ => False) w w') := by
  unfold before
  have c3 := k.c3
  have c1 := k.c1
  have c0 := k.c0
  have lk := k.look x
  by_cases hm : x ∈ L
  · rw [decide_eq_true hm] at lk
    by_cases hh : x = L.headD (-1)
    · rw [if_neg (fun q => q.2 hh)]
      have t : (x == L.headD (-1)) = true := by rw [beq_iff_eq]; exact hh
      generalize L.headD (-1) = n at c1 t
      clear k hm hh
      go_enter Try.func79, Try.ntmps79
      go_wp2
      go_ret2
      exact ⟨rfl, Chg.refl _ _⟩
    · rw [if_pos ⟨hm, hh⟩]
      have t : (x == L.headD (-1)) = false := by rw [beq_eq_false_iff_ne]; exact hh
      obtain ⟨A, C, hL, hA, h3, h4, h5, h6⟩ := split_at x L hm
      rw [h5]
      have fl := (by have := k.li; rw [hL] at this; exact this : LI s (A ++ x :: C)).fields
      have hw := k.li.hdr x hm
      have GC := Lib.hid (get_calls k.lies x 1 (pl_i64 (k.li.pl hm).1))
      rw [itemGet1 hw, fl.1] at GC
      generalize A.getLastD (-1) = p at GC ⊢
      generalize L.headD (-1) = n at c1 t
      clear k hm hh hL hA h3 h4 h5 h6 fl hw
      go_enter Try.func79, Try.ntmps79
      go_wp2_with fail
      refine GC.out.mono ?_
      rintro e w1 ⟨rfl, k1⟩
      have K1 := Lib.hid k1
      clear k1
      go_wp2
      go_ret2
      exact ⟨rfl, K1.out⟩
  · rw [if_neg (fun q => hm q.1)]
    rw [decide_eq_false hm] at lk
    clear k hm
    go_enter Try.func79, Try.ntmps79
    go_wp2
    go_ret2
    exact ⟨rfl, Chg.refl _ _⟩
/-- a queue of the call's own, without items -/
theorem qnew_calls (hl : Lies w a s) : Calls Try.prog 73 #[(.pointer (some ⟨a.g, 0, none⟩))] w fun e w' => ∃ h : Qh, e = .returned (.pointer (some ⟨h.q, 0, none⟩)) ∧ QLies w' a h s [] ∧ Chg (fun _ => False) w w' ∧ w.heap.size ≤ h.q ∧ w.heap.size ≤ h.m := by
  have hmm := @run_makeMap Try.prog
  have lg := blk_lt hl.head
  have lp : a.ps < w.heap.size := World.block_lt_of_cell? w _ (hl.row 0 hl.ok.low)
  have far : ∀ x, w.heap.size ≤ x → x ≠ a.g ∧ x ≠ a.ps ∧ x ∉ a.pb := fun x hx => ⟨by omega, fun e => by subst e; omega, fun hb => by
    obtain ⟨i, hi, e⟩ := hl.of_mem hb
    have := blk_lt (hl.page i hi)
    omega⟩
  have R : Hid (∀ e w', e = Ending.returned (.pointer (some ⟨w.heap.size + 1, 0, none⟩)) → w' = (w.alloc (.map #[] 0)).alloc (.cells (qcells a ⟨w.heap.size + 1, w.heap.size⟩ (-1) (-1)).toArray 144) → ∃ h : Qh, e = .returned (.pointer (some ⟨h.q, 0, none⟩)) ∧ QLies w' a h s [] ∧ Chg (fun _ => False) w w' ∧ w.heap.size ≤ h.q ∧ w.heap.size ≤ h.m) := fun e w' he hw => by
    subst hw
    refine ⟨⟨w.heap.size + 1, w.heap.size⟩, he, ⟨(hl.chg (Chg.alloc _ _ _) id id fun _ _ => id).chg (Chg.alloc (fun _ => False) _ _) id id (fun _ _ => id), ⟨hl.ok, fun x hx => by simp at hx, List.Pairwise.nil, trivial⟩, ?_, (MSet.made w).chg (Chg.alloc (fun _ => False) _ _) id, ⟨far _ (by show _ ≤ w.heap.size + 1; omega), far _ (Nat.le_refl _), by show w.heap.size + 1 ≠ w.heap.size; omega⟩⟩, (Chg.alloc _ _ _).trans (Chg.alloc _ _ _), by show _ ≤ w.heap.size + 1; omega, Nat.le_refl _⟩
    have := heap_alloc_at (w.alloc (.map #[] 0)) (.cells (qcells a ⟨w.heap.size + 1, w.heap.size⟩ (-1) (-1)).toArray 144)
    rw [World.size_alloc] at this
    exact this
  clear far lg lp hl
  go_enter Try.func73, Try.ntmps73
  go_wp2
  go_ret
  exact R.out _ _ rfl rfl
end Go.Proofs.Ytmffdlebahdihaa.Links

/- The program's queue: items (a function to range over) and List. -/
namespace Go.Proofs.Ytmffdlebahdihaa.Links
open Go Go.RowKit Go.Shelf Go.Proofs.Ytmffdlebahdihaa.Mem Go.Proofs.Ytmffdlebahdihaa.CodecPure Go.Proofs.Ytmffdlebahdihaa.ArenaPure Go.Proofs.Ytmffdlebahdihaa.Codec Go.Proofs.Ytmffdlebahdihaa.Arena Go.Proofs.Ytmffdlebahdihaa.Item
set_option linter.unusedVariables false
set_option maxRecDepth 100000
attribute [local go_sem] Oper.semAt_some
variable {w w' : World} {a : Ar} {h : Qh} {s : St} {L : List Int}
/-- how many items are still to come -/
def toCome (L : List Int) : Value → Nat
  | .int _ x => if x ∈ L then L.length - L.idxOf x else 0
  | _ => 0
theorem toCome_int (L : List Int) (k : IntKind) (x : Int) : toCome L (.int k x) = if x ∈ L then L.length - L.idxOf x else 0 := rfl
theorem idx_mid {A : List Int} {x : Int} {C : List Int} (h : x ∉ A) : (A ++ x :: C).idxOf x = A.length := by
  induction A with
  | nil => simp
  | cons y A ih =>
    simp only [List.mem_cons, not_or] at h
    rw [List.cons_append, List.idxOf_cons, ih h.2]
    have : (y == x) = false := by rw [beq_eq_false_iff_ne]; exact fun e => h.1 e.symm
    rw [this]; rfl
theorem toCome_at {A : List Int} {x : Int} {C : List Int} (h : (A ++ x :: C).Nodup) : toCome (A ++ x :: C) (.int .i64 x) = C.length + 1 := by
  have hx : x ∉ A := fun hm => (List.nodup_append.1 h).2.2 x hm x (by simp) rfl
  rw [toCome_int, if_pos (by simp), idx_mid hx, List.length_append, List.length_cons]; omega
theorem toCome_less {A : List Int} {x : Int} {C : List Int} (h : (A ++ x :: C).Nodup) (hn : (-1 : Int) ∉ A ++ x :: C) : toCome (A ++ x :: C) (.int .i64 (C.headD (-1))) < toCome (A ++ x :: C) (.int .i64 x) := by
  rw [toCome_at h]
  cases C with
  | nil =>
    show toCome _ (.int .i64 (-1)) < _
    rw [toCome_int, if_neg hn]; simp
  | cons y C =>
    have e : A ++ x :: y :: C = (A ++ [x]) ++ y :: C := by simp
    show toCome _ (.int .i64 y) < _
    rw [e] at h ⊢
    rw [toCome_at h, List.length_cons]; omega
theorem grown_of_chg (hc : Chg (fun _ => False) w w') : w.grownBy w' none := ⟨hc.os, hc.tape, hc.output, hc.size, fun b hb _ => hc.block b hb id⟩
/-- what a round keeps: all that lay below n₀, and the box Bn -/
def Kp (n₀ Bn : Nat) (A B : World) : Prop := Below n₀ A B ∧ B.heap[Bn]? = A.heap[Bn]?
theorem Kp.trans {n₀ Bn : Nat} {A B C : World} (h : Kp n₀ Bn A B) (k : Kp n₀ Bn B C) : Kp n₀ Bn A C := ⟨h.1.trans k.1, k.2.trans h.2⟩
theorem Kp.cell {n₀ Bn : Nat} {A B : World} (h : Kp n₀ Bn A B) : B.cell? ⟨Bn, 0, none⟩ = A.cell? ⟨Bn, 0, none⟩ := by
  unfold World.cell?
  rw [h.2]
set_option maxHeartbeats 1000000 in
/-- items' function: for every body that keeps what lay below n₀ -/
theorem items1_in (F : Fence) (n : Nat) (hf : F.fn 109) (hg : F.fn 31) (hro : F.round = none) (hn : 1 ≤ n) (l Bn n₀ : Nat) (J Jx : List Int → World → Prop)
    (GC : ∀ W x C A, Chg (fun _ => False) w W → L = A ++ x :: C → CallsIn F (n - 1) Try.prog 31 #[(.pointer (some ⟨a.g, 0, none⟩)), (.int .i64 x), (.int .i64 2)] W (Ans2 W (C.headD (-1)) 0))
    (W : World) (hJ : AbidesFrom W.heap.size J) (hn₀ : w.heap.size ≤ n₀) (hn₁ : n₀ ≤ W.heap.size)
    (hY : ∀ pre x W, J pre W → pre.length < L.length → YieldAt F (n - 1) Try.prog l #[.int .i64 x] W fun e W' =>
      (e = .returned (.bool true) ∧ J (pre ++ [x]) W' ∧ Kp n₀ Bn W W') ∨ (e = .returned (.bool false) ∧ Jx (pre ++ [x]) W'))
    (hBn : Bn < W.heap.size) (hc : W.cell? ⟨Bn, 0, none⟩ = some (.pointer (some ⟨h.q, 0, none⟩))) (k : QLies w a h s L) (hW : Chg (fun _ => False) w W) (h0 : J [] W) :
    CallsIn F n Try.prog 109 #[.func (.yield l) #[] #[], (.pointer (some ⟨Bn, 0, none⟩))] W fun e W' => (∃ v, e = .returned v) ∧
      ((∃ ys, ys = L ∧ J ys W') ∨ (∃ pre, pre <+: L ∧ Jx pre W')) := by
  have hm1 : (-1 : Int) ∉ L := fun hm => by have := (k.li.pl hm).2; omega
  have hnd := k.li.nodup
  have lq := blk_lt k.head
  have kW := k.fresh hW
  have c1 := kW.c1
  have hnW : ∀ W', Below n₀ W W' → QLies W' a h s L ∧ Chg (fun _ => False) w W' := fun W' hb => by
    have : Chg (fun _ => False) w W' := ⟨hb.os.trans hW.os, hb.tape.trans hW.tape, hb.output.trans hW.output, Nat.le_trans hW.size hb.size, fun b hb' _ => (hb.block b (by omega)).trans (hW.block b hb' id)⟩
    exact ⟨k.fresh this, this⟩
  replace GC := Lib.hid GC
  replace hnW := Lib.hid hnW
  replace hY := Lib.hid hY
  replace hJ := Lib.hid hJ
  refine callsIn_of_wp Try.func109 rfl hf ?_ hro
  simp only [Try.ntmps109, List.size_toArray, List.length_cons, List.length_nil, Nat.reduceAdd, Nat.reduceSub, Array.replicate_succ, Array.replicate_zero, List.push_toArray, List.append_toArray, List.nil_append, List.cons_append]
  generalize hfirst : L.headD (-1) = first at c1
  clear kW k
  gi_wp2
  gi_loopw [3] (fun p wr => ∃ (pre rest : List Int), p = .int .i64 (rest.headD (-1)) ∧ L = pre ++ rest ∧ Kp n₀ Bn W wr ∧ J pre wr) (fun p wr => toCome L p)
  case atStart =>
    exact ⟨[], L, by rw [hfirst], rfl, ⟨Below.refl _ _, rfl⟩, h0⟩
  case round =>
    obtain ⟨pre, rest, rfl, hx, hb, hJs⟩ := hrel
    cases rest with
    | nil =>
      dsimp only [List.headD_nil] at *
      clear hnd hm1 c1 hfirst GC hnW hY
      gi_wp2
      refine ⟨fun _ h => (by cases h), ?_⟩
      gi_wp2
      go_end0
      exact ⟨⟨_, rfl⟩, .inl ⟨pre, by simp [hx], hJs⟩⟩
    | cons x rest =>
      have t : (x != -1) = true := by rw [bne_iff_ne]; exact fun e => hm1 (by rw [hx, ← e]; simp)
      obtain ⟨fn, tmps, assign, body, hy, hR⟩ := hY.out pre x wr hJs (by rw [hx]; simp)
      replace hR := Lib.hid hR
      have hd : (x :: rest).headD (-1) = x := rfl
      rw [hd]
      clear hd
      gi_wp2
      refine hR.out.mono ?_
      rintro e W3 (⟨rfl, hJ3, hk3⟩ | ⟨rfl, hJx3⟩)
      · obtain ⟨k3, f3⟩ := hnW.out W3 (hb.trans hk3).1
        have d1 : W3.cell? ⟨Bn, 0, none⟩ = some (.pointer (some ⟨h.q, 0, none⟩)) := (hb.trans hk3).cell.trans hc
        have d0 := k3.c0
        have C3 := GC.out W3 x rest pre f3 hx
        have hlt := toCome_less (by rw [← hx]; exact hnd) (by rw [← hx]; exact hm1)
        rw [← hx] at hlt
        have J3 := Lib.hid hJ3
        have B3 := Lib.hid (hb.trans hk3)
        have X := Lib.hid hx
        clear k3 f3 hk3 hb hJ3 hJs c1 hc hfirst hx hm1 hnd GC hY hR hnW
        generalize hnx : rest.headD (-1) = nx at C3 hlt
        replace hnx := Lib.hid hnx
        gi_wp2_with (gi_at_call 31; refine C3.mono ?_; rintro e w4 ⟨rfl, f4⟩; have F4 := Lib.hid f4; clear f4 C3 d1 d0)
        go_roundw
        case rel => exact ⟨pre ++ [x], rest, by rw [hnx.out], by rw [X.out]; simp, ⟨⟨F4.out.os.trans B3.out.1.os, F4.out.tape.trans B3.out.1.tape, F4.out.output.trans B3.out.1.output, Nat.le_trans B3.out.1.size F4.out.size, fun b hb => (F4.out.block b (Nat.lt_of_lt_of_le hb (Nat.le_trans hn₁ B3.out.1.size)) id).trans (B3.out.1.block b hb)⟩, (F4.out.block Bn (Nat.lt_of_lt_of_le hBn B3.out.1.size) id).trans B3.out.2⟩, hJ.out _ _ _ none J3.out (grown_of_chg F4.out) (fun r e => by cases e)⟩
        case measure => exact hlt
      · clear hnd hm1 c1 hfirst GC hnW hY hR
        gi_wp2
        go_end0
        exact ⟨⟨_, rfl⟩, .inr ⟨pre ++ [x], ⟨rest, by simp [hx]⟩, hJx3⟩⟩
theorem items_calls (q : Nat) : Calls Try.prog 89 #[(.pointer (some ⟨q, 0, none⟩))] w fun e w' => e = .returned (.func (.func 109) #[] #[(.pointer (some ⟨w.heap.size, 0, none⟩))]) ∧ w' = w.alloc (.cells #[(.pointer (some ⟨q, 0, none⟩))] 101) := by
  go_enter Try.func89, Try.ntmps89
  go_wp2
  go_ret
  exact ⟨rfl, rfl⟩
theorem items_stops (F : Fence) (n : Nat) (hf : F.fn 109) (hg : F.fn 31) (hro : F.round = none) (hn : 1 ≤ n) (Bn n₀ : Nat) (w1 : World)
    (GC : ∀ W x C A, Chg (fun _ => False) w W → L = A ++ x :: C → CallsIn F (n - 1) Try.prog 31 #[(.pointer (some ⟨a.g, 0, none⟩)), (.int .i64 x), (.int .i64 2)] W (Ans2 W (C.headD (-1)) 0))
    (hn₀ : w.heap.size ≤ n₀) (hB : Bn < w1.heap.size) (h1 : n₀ ≤ w1.heap.size) (hc : w1.cell? ⟨Bn, 0, none⟩ = some (.pointer (some ⟨h.q, 0, none⟩))) (k : QLies w a h s L) (hw : Chg (fun _ => False) w w1) :
    SeqStopsK F n Try.prog 109 #[(.pointer (some ⟨Bn, 0, none⟩))] (fun x : Int => #[Value.int .i64 x]) (Kp n₀ Bn) (fun ys => ys = L) (fun pre => pre <+: L) L.length w1 := fun l J Jx W hW hJ _ hY h0 =>
  items1_in F n hf hg hro hn l Bn n₀ J Jx GC W hJ hn₀ (Nat.le_trans h1 hW.size) hY (Nat.lt_of_lt_of_le hB hW.size) ((hW.cell (p := ⟨Bn, 0, none⟩) hB).trans hc) k (hw.trans (Chg.of_below hW)) h0
theorem info_int : (Try.prog.info? 3).map (fun i => (i.zero, i.size, i.bytes)) = some (some (.int .i64 0), 1, 8) := by kernel_rfl
set_option maxHeartbeats 2000000 in
theorem list_calls (k : QLies w a h s L) (hlen : L.length ≤ 1000000) : Calls Try.prog 60 #[(.pointer (some ⟨h.q, 0, none⟩))] w (fun e w' => ∃ v, e = .returned v ∧ Mem.Own w' w.heap.size 3 .i64 v L ∧ Chg (fun _ => False) w w') := by
  have GC := fun (W : World) (x : Int) (C A : List Int) (hc : Chg (fun _ => False) w W) (hx : L = A ++ x :: C) => by
    have hm : x ∈ L := by rw [hx]; simp
    have fl := (by have := k.li; rw [hx] at this; exact this : LI s (A ++ x :: C)).fields
    have := get_calls (k.fresh hc).lies x 2 (pl_i64 (k.li.pl hm).1)
    rw [itemGet2 (k.li.hdr x hm), fl.2] at this
    exact this
  refine (callsIn_wide (n := 3)).1 ?_
  obtain ⟨i0, hi, hz0, hz1, hz2⟩ := info_parts info_int
  refine callsIn_of_wp_marks Try.func60 rfl trivial ?_ rfl
  simp only [Try.ntmps60, List.size_toArray, List.length_cons, List.length_nil, Nat.reduceAdd, Nat.reduceSub, Array.replicate_succ, Array.replicate_zero, List.push_toArray, List.append_toArray, List.nil_append, List.cons_append]
  have IC := fun (W : World) => items_calls (w := W) h.q
  gi_wp2_with (refine ⟨trivial, ?_⟩; gi_at_call 89; refine (callsIn_wide.2 (IC _)).mono ?_; rintro e w' ⟨rfl, rfl⟩)
  have bO := Boxed.new w 25 (.slice none 0 0)
  have bN := Boxed.new (w.alloc (.cells #[.slice none 0 0] 25)) 101 (.pointer (some ⟨h.q, 0, none⟩))
  rw [World.size_alloc] at bN
  have hB0 : Below w.heap.size w ((w.alloc (.cells #[.slice none 0 0] 25)).alloc (.cells #[(.pointer (some ⟨h.q, 0, none⟩))] 101)) := ((Below.refl _ w).alloc (Nat.le_refl _) _).alloc (by simp) _
  have hst := items_stops Fence.wide 2 trivial trivial rfl (by decide) (w.heap.size + 1) w.heap.size ((w.alloc (.cells #[.slice none 0 0] 25)).alloc (.cells #[(.pointer (some ⟨h.q, 0, none⟩))] 101)) (fun W x C A hc hx => callsIn_wide.2 (GC W x C A hc hx)) (Nat.le_refl _) (by simp) (by simp; omega) bN.cell k (Chg.of_below hB0)
  refine wpIn_rangeFunc_ownG rfl (by decide) (gf := 109) (lb := #[(.pointer (some ⟨w.heap.size + 1, 0, none⟩))]) rfl trivial (enters_of Try.func109 (by kernel_rfl) rfl) hst
    (fun h k => h.trans k) (fun W l o o' hl h1 h2 h3 => ⟨belowK_b (w := (w.alloc (.cells #[.slice none 0 0] 25)).alloc (.cells #[(.pointer (some ⟨h.q, 0, none⟩))] 101)) (by simp; omega) W l o o' hl h1 h2 h3, World.putObj_heap_other (by simp at hl; omega)⟩) (Below.refl _ _) (fun _ => rfl)
    (fun pre W => (∃ v, Boxed W w.heap.size 25 v ∧ W.ownsRow w.heap.size 3 1 v pre.length (nums .i64 pre) ∧ True) ∧ Boxed W (w.heap.size + 1) 101 (.pointer (some ⟨h.q, 0, none⟩)) ∧ Below w.heap.size w W)
    (fun _ _ _ => False)
    (OwnFrom.and (Own.from (holdsRow_own w.heap.size w.heap.size 25 3 1 (fun pre => pre.length) (fun pre => nums .i64 pre) (fun pre v => True)) _) (OwnFrom.and (Own.from (boxed_own _ _ _) _) (ownFrom_below (Nat.le_refl _) (by simp; omega))))
    (fun _ _ _ _ _ hs _ _ => hs)
    ⟨⟨_, bO.alloc _, World.ownsRow_nil _ _ _ _, trivial⟩, bN, hB0⟩
    (fun x => { tmps := #[(.pointer (some ⟨h.q, 0, none⟩)), undef, .slice none 0 0, (.pointer (some ⟨w.heap.size, 0, none⟩)), (.int .i64 x), (.pointer (some ⟨h.q, 0, none⟩)), .func (.func 109) #[] #[(.pointer (some ⟨w.heap.size + 1, 0, none⟩))], (.int .i64 x), undef, undef, undef, undef, undef], defers := [] }) ?assign ?body ?done ?stop
  case assign =>
    intro l x W K hK
    gi_wp2
    exact hK
  case body =>
    rintro l pre x W ⟨⟨v, hv, hrow, -⟩, hN, hB⟩ hlt
    have hc := hv.cell
    have hpl : pre.length + 1 ≤ maxLen ∧ (pre.length + 1) * 8 ≤ 140737488355328 := ⟨by unfold maxLen; omega, by omega⟩
    clear hst bO bN hB0 GC IC k
    gi_wp2_with (gi_at_builtin; refine wpListIn_append_own _ rfl _ _ 25 rfl w.heap.size 3 i0 (.int .i64 0) 1 8 Try.underlying25 hi hz0 hz1 hz2 rfl (by decide) _ _ _ rfl (hrow.alloc _) ⟨W.heap.size, 0, none⟩ 1 1 [.int .i64 x] rfl rfl (cell_one_new _ _ _) (by simp [Value.oneCell']) hpl.1 hpl.2 (by have := hB.size; simp; omega) ?_; intro v' w1 hown' hgrow _; obtain ⟨g', cap', rfl⟩ := ownsRow_succ hown'; have hn1 := ((hN.alloc _).kept hgrow (hN.not_row (by decide) hrow)).kept (grownBy_setCell' w1 w.heap.size (.slice (some ⟨g', 0, none⟩) (pre.length + 1) cap')) (by simp); obtain ⟨hv1, hv2, hr2, hk2, hb2⟩ := hv.appended (by decide) hrow hB.size (Nat.le_refl _) hown' hgrow; have hc1 := hv1.cell; have hf1 := hv1.frozen)
    exact ⟨hk2.from _, ⟨hb2, hn1.trans hN.symm⟩, ⟨_, hv2, by rw [List.length_append, List.length_singleton, nums_append]; exact hr2, trivial⟩, hn1, hB.trans hb2⟩
  case done =>
    rintro D ys W hD rfl ⟨⟨v, hv, hrow, -⟩, hN, hB⟩ hK
    have hc := hv.cell
    gi_wp2
    refine ⟨by simp, .inl ⟨_, _, rfl, run_takeDeferred hK, ?_⟩⟩
    exact ⟨_, results_tmp rfl _ _ _, v, rfl, ownsRow_putObj hrow _ hK rfl, Chg.of_below (hB.trans (belowK_b (w := w) (Nat.le_refl _) W D _ _ (by simp at hD; omega) hK rfl rfl))⟩
  case stop =>
    rintro D c pre W _ _ h _
    exact h.elim
end Go.Proofs.Ytmffdlebahdihaa.Links

/- A queue of the call's own over chunks of 64 bytes, as its functions leave it. -/
namespace Go.Proofs.Ytmffdlebahdihaa.Links
open Go Go.RowKit Go.Proofs.Ytmffdlebahdihaa.Mem Go.Proofs.Ytmffdlebahdihaa.CodecPure Go.Proofs.Ytmffdlebahdihaa.ArenaPure Go.Proofs.Ytmffdlebahdihaa.Codec Go.Proofs.Ytmffdlebahdihaa.Arena Go.Proofs.Ytmffdlebahdihaa.Item
set_option linter.unusedVariables false
set_option maxRecDepth 100000
variable {B : Nat} {w0 w w' : World} {a : Ar} {h : Qh} {s : St} {L : List Int}
theorem madeS_own : (madeS 4).own = [1, 1, 1, -1] := by decide +kernel
theorem within_chunk {s : St} (ho : s.own = [1, 1, 1, -1]) {x : Int} (hx : x % 64 = 0) : within s x 40 ↔ 0 ≤ x ∧ x < 3072 := by
  unfold within
  rw [ho]
  constructor
  · rintro ⟨h1, h2, h3, h4, h5⟩
    refine ⟨h2, ?_⟩
    have e : x / 1024 < 4 := by simp at h3; omega
    by_cases q : x / 1024 = 3
    · rw [q] at h4; simp at h4
    · omega
  · rintro ⟨h1, h2⟩
    have e : (x / 1024).toNat < 3 := by omega
    refine ⟨by omega, h1, ?_, ?_, by omega⟩
    · simp; omega
    · generalize (x / 1024).toNat = k at e
      match k, e with
      | 0, _ => decide
      | 1, _ => decide
      | 2, _ => decide
theorem not_within_far {s : St} (ho : s.own = [1, 1, 1, -1]) {x : Int} (hx : x < 0 ∨ 4096 ≤ x) : ¬ within s x 40 := by
  unfold within
  rw [ho]
  rintro ⟨h1, h2, h3, h4, h5⟩
  simp at h3
  omega
/-- a place of a chunk, or far off -/
def Chunk (x : Int) : Prop := x % 64 = 0 ∨ x < 0 ∨ 4096 ≤ x
theorem Chunk.within {s : St} (ho : s.own = [1, 1, 1, -1]) {x : Int} (hx : Chunk x) : within s x 40 ↔ (x % 64 = 0 ∧ 0 ≤ x ∧ x < 3072) := by
  by_cases e : x % 64 = 0
  · rw [within_chunk ho e]
    exact ⟨fun h => ⟨e, h⟩, fun h => h.2⟩
  · have := not_within_far ho (hx.resolve_left e)
    exact ⟨fun h => absurd h this, fun h => absurd h.1 e⟩
/-- the queue lies in blocks from B on; its items are chunks; the fields of chunks that are not in it lead nowhere -/
structure QA (B : Nat) (w0 w : World) (a : Ar) (h : Qh) (s : St) (L : List Int) : Prop where
  here : Here B w0 w a s
  q : QLies w a h s L
  low : B ≤ h.q ∧ B ≤ h.m
  mult : ∀ y ∈ L, y % 64 = 0
  own : s.own = [1, 1, 1, -1]
  clean : ∀ x, x % 64 = 0 → within s x 40 → x ∉ L → (place s (x + 4)).1 ≤ 0 ∧ (place s (x + 8)).1 ≤ 0
theorem QA.fresh (k : QA B w0 w a h s L) (hc : Chg (fun _ => False) w w') : QA B w0 w' a h s L :=
  ⟨k.here.fresh hc, k.q.fresh hc, k.low, k.mult, k.own, k.clean⟩
theorem QA.below (k : QA B w0 w a h s L) (hB : B ≤ w0.heap.size) : Below B w0 w := k.here.below hB
theorem chunk_apart {x y : Int} (hx : x % 64 = 0) (hy : y % 64 = 0) (e : x ≠ y) : ArenaPure.Apart x y := by
  unfold ArenaPure.Apart; omega
theorem QA.ap (k : QA B w0 w a h s L) {x : Int} (hx : Chunk x) : within s x 40 → x ∉ L → ∀ y ∈ L, ArenaPure.Apart y x := fun hw hm y hy =>
  chunk_apart (k.mult y hy) ((hx.within k.own).1 hw).1 fun e => hm (e ▸ hy)
theorem place_lay {s t : St} {M : List Int} (h : Lay s t (Flds M)) {x : Int} (h0 : 0 ≤ x) (ha : ∀ y ∈ M, ArenaPure.Apart y x) : place t (x + 4) = place s (x + 4) ∧ place t (x + 8) = place s (x + 8) := by
  refine ⟨h.place _ (by omega) fun i h1 h2 hf => ?_, h.place _ (by omega) fun i h1 h2 hf => ?_⟩ <;> obtain ⟨y, hy, f1, f2⟩ := hf <;> have := ha y hy <;> unfold ArenaPure.Apart at this <;> omega
theorem QA.next (k : QA B w0 w a h s L) {s' : St} {L' : List Int} (hq : QLies w' a h s' L') (hc : Chg (Q2 a h) w w') (hm : ∀ y ∈ L', y % 64 = 0) (ho : s'.own = s.own)
    (hcl : ∀ x, x % 64 = 0 → within s x 40 → x ∉ L' → (place s' (x + 4)).1 ≤ 0 ∧ (place s' (x + 8)).1 ≤ 0) : QA B w0 w' a h s' L' :=
  ⟨⟨hq.lies, k.here.chg.trans (hc.mono fun b _ hb => by
    rcases hb with hb | rfl | rfl
    · exact k.here.low.2.2 b hb
    · exact k.low.1
    · exact k.low.2), k.here.low⟩, hq, k.low, hm, by rw [ho, k.own], fun x h1 h2 => hcl x h1 ((within_own ho x 40).1 h2)⟩
/-- what an act answers, and how it leaves the queue -/
def QNow (B : Nat) (w0 w : World) (a : Ar) (h : Qh) (r : St × List Int × Int) (e : Ending) (w' : World) : Prop :=
  e = .returned (.int .i64 r.2.2) ∧ QA B w0 w' a h r.1 r.2.1 ∧ Chg (Q2 a h) w w'
theorem QA.push (k : QA B w0 w a h s L) {x : Int} (hx : Chunk x) (hi : I64 x) : Calls Try.prog 102 #[(.pointer (some ⟨h.q, 0, none⟩)), (.int .i64 x)] w (QNow B w0 w a h (pushed s L x)) :=
  (push_calls k.q x hi (k.ap hx)).mono fun e w1 ⟨h1, h2, h3⟩ => by
    refine ⟨h1, ?_, h3⟩
    unfold pushed at h2 ⊢
    by_cases hw : within s x 40
    · rw [if_pos hw] at h2 ⊢
      by_cases hm : x ∈ L
      · rw [if_pos hm] at h2 ⊢
        exact k.next h2 h3 k.mult rfl k.clean
      · rw [if_neg hm] at h2 ⊢
        have P := put_seg (A := []) (C := L) k.q.li hw (k.ap hx hw hm)
        have ex := ((hx.within k.own).1 hw).1
        refine k.next h2 h3 (fun y hy => ?_) P.2.own fun z h4 h5 h6 => ?_
        · rcases List.mem_cons.1 hy with rfl | hy
          · exact ex
          · exact k.mult y hy
        · simp only [List.mem_cons, not_or] at h6
          have z0 := ((within_chunk k.own h4).1 h5).1
          have E := place_lay P.2 z0 fun y hy => chunk_apart (by
            rcases List.mem_cons.1 hy with rfl | hy
            · exact ex
            · exact k.mult y hy) h4 fun e => by
              subst e
              rcases List.mem_cons.1 hy with e | hy
              · exact h6.1 e
              · exact h6.2 hy
          have c := k.clean z h4 h5 h6.2
          show (place (putS s (-1) x (L.headD (-1))) (z + 4)).1 ≤ 0 ∧ _
          exact ⟨by rw [show place (putS s (-1) x (L.headD (-1))) (z + 4) = _ from E.1]; exact c.1, by rw [show place (putS s (-1) x (L.headD (-1))) (z + 8) = _ from E.2]; exact c.2⟩
    · rw [if_neg hw] at h2 ⊢
      exact k.next h2 h3 k.mult rfl k.clean
theorem QA.remove (k : QA B w0 w a h s L) (x : Int) : Calls Try.prog 80 #[(.pointer (some ⟨h.q, 0, none⟩)), (.int .i64 x)] w (QNow B w0 w a h (removed s L x)) :=
  (remove_calls k.q x).mono fun e w1 ⟨h1, h2, h3⟩ => by
    refine ⟨h1, ?_, h3⟩
    unfold removed at h2 ⊢
    by_cases hm : x ∈ L
    · rw [if_pos hm] at h2 ⊢
      obtain ⟨A, C, hL, hA, h4, h5, h6, h7⟩ := split_at x L hm
      have kli := k.q.li
      rw [hL] at kli
      obtain ⟨P1, P2, P3, P4⟩ := del_seg kli
      rw [← h5, ← h6] at P1 P2 P3 P4
      have mA : ∀ y, y ∈ A ++ C → y ∈ L := fun y hy => by rw [hL]; simp at hy ⊢; rcases hy with hy | hy; exact .inl hy; exact .inr (.inr hy)
      refine k.next h2 h3 (fun y hy => k.mult y (List.mem_of_mem_erase hy)) P2.own fun z h8 h9 h10 => ?_
      have z0 := ((within_chunk k.own h8).1 h9).1
      by_cases ez : z = x
      · subst ez
        exact ⟨by rw [P3]; decide, by rw [P4]; decide⟩
      · have hz : z ∉ L := fun hz => h10 (by rw [h7]; rw [hL] at hz; simp at hz ⊢; rcases hz with hz | hz | hz; exact .inl hz; exact absurd hz ez; exact .inr hz)
        have E := place_lay P2 z0 fun y hy => chunk_apart (k.mult y (by rw [hL]; exact hy)) h8 fun e => hz (by rw [← e, hL]; exact hy)
        have c := k.clean z h8 h9 hz
        exact ⟨by rw [E.1]; exact c.1, by rw [E.2]; exact c.2⟩
    · rw [if_neg hm] at h2 ⊢
      exact k.next h2 h3 k.mult rfl k.clean
end Go.Proofs.Ytmffdlebahdihaa.Links

