/- The program's queue: items (a function to range over) and List. -/
import Derived.Test.YtfhffffdhlofgaaLinks3
import Derived.Test.YtfhffffdhlofgaaApp
import Derived.RangeFuncNested
import Derived.RangeFuncBound
import Derived.RangeFuncCalls
import Derived.RangeFuncLeaves
import Derived.RangeFuncBox
import Derived.Shelf.Abstract
import Derived.Shelf.RegionOpen
import Derived.WalkKit
import Derived.OwnWalkIn
import Derived.TacticsInMore
import Derived.LoopNIn
import Derived.LoopIn
import Derived.Maps.AppendAt
namespace Go.Proofs.Ytfhffffdhlofgaa.Links
open Go Go.RowKit Go.Shelf Go.Proofs.Ytfhffffdhlofgaa.Mem Go.Proofs.Ytfhffffdhlofgaa.CodecPure Go.Proofs.Ytfhffffdhlofgaa.ArenaPure Go.Proofs.Ytfhffffdhlofgaa.Codec Go.Proofs.Ytfhffffdhlofgaa.Arena Go.Proofs.Ytfhffffdhlofgaa.Item
set_option linter.unusedVariables false
set_option maxRecDepth 100000
attribute [local go_sem] Oper.semAt_some
variable {w w' : World} {a : Ar} {h : Qh} {s : St} {L : List Int}
/-- how many items are still to come -/
def toCome (L : List Int) : Value → Nat
  | .int _ x => if x ∈ L then L.length - L.idxOf x else 0
  | _ => 0
theorem toCome_int (L : List Int) (k : IntKind) (x : Int) : toCome L (.int k x) = if x ∈ L then L.length - L.idxOf x else 0 := rfl
theorem idx_mid {A : List Int} {x : Int} {C : List Int} (h : x ∉ A) : (A ++ x :: C).idxOf x = A.length := by
  induction A with
  | nil => simp
  | cons y A ih =>
    simp only [List.mem_cons, not_or] at h
    rw [List.cons_append, List.idxOf_cons, ih h.2]
    have : (y == x) = false := by rw [beq_eq_false_iff_ne]; exact fun e => h.1 e.symm
    rw [this]; rfl
theorem toCome_at {A : List Int} {x : Int} {C : List Int} (h : (A ++ x :: C).Nodup) : toCome (A ++ x :: C) (.int .i64 x) = C.length + 1 := by
  have hx : x ∉ A := fun hm => (List.nodup_append.1 h).2.2 x hm x (by simp) rfl
  rw [toCome_int, if_pos (by simp), idx_mid hx, List.length_append, List.length_cons]; omega
theorem toCome_less {A : List Int} {x : Int} {C : List Int} (h : (A ++ x :: C).Nodup) (hn : (-1 : Int) ∉ A ++ x :: C) : toCome (A ++ x :: C) (.int .i64 (C.headD (-1))) < toCome (A ++ x :: C) (.int .i64 x) := by
  rw [toCome_at h]
  cases C with
  | nil =>
    show toCome _ (.int .i64 (-1)) < _
    rw [toCome_int, if_neg hn]; simp
  | cons y C =>
    have e : A ++ x :: y :: C = (A ++ [x]) ++ y :: C := by simp
    show toCome _ (.int .i64 y) < _
    rw [e] at h ⊢
    rw [toCome_at h, List.length_cons]; omega
theorem grown_of_chg (hc : Chg (fun _ => False) w w') : w.grownBy w' none := ⟨hc.os, hc.tape, hc.output, hc.size, fun b hb _ => hc.block b hb id⟩
/-- what a round keeps: all that lay below n₀, and the box Bn -/
def Kp (n₀ Bn : Nat) (A B : World) : Prop := Below n₀ A B ∧ B.heap[Bn]? = A.heap[Bn]?
theorem Kp.trans {n₀ Bn : Nat} {A B C : World} (h : Kp n₀ Bn A B) (k : Kp n₀ Bn B C) : Kp n₀ Bn A C := ⟨h.1.trans k.1, k.2.trans h.2⟩
theorem Kp.cell {n₀ Bn : Nat} {A B : World} (h : Kp n₀ Bn A B) : B.cell? ⟨Bn, 0, none⟩ = A.cell? ⟨Bn, 0, none⟩ := by
  unfold World.cell?
  rw [h.2]
set_option maxHeartbeats 1000000 in
/-- items' function: for every body that keeps what lay below n₀ -/
theorem items1_in (F : Fence) (n : Nat) (hf : F.fn 79) (hg : F.fn 22) (hro : F.round = none) (hn : 1 ≤ n) (l Bn n₀ : Nat) (J Jx : List Int → World → Prop)
    (GC : ∀ W x C A, Chg (fun _ => False) w W → L = A ++ x :: C → CallsIn F (n - 1) Try.prog 22 #[(.pointer (some ⟨a.g, 0, none⟩)), (.int .i64 x), (.int .i64 2)] W (Ans2 W (C.headD (-1)) 0))
    (W : World) (hJ : AbidesFrom W.heap.size J) (hn₀ : w.heap.size ≤ n₀) (hn₁ : n₀ ≤ W.heap.size)
    (hY : ∀ pre x W, J pre W → pre.length < L.length → YieldAt F (n - 1) Try.prog l #[.int .i64 x] W fun e W' =>
      (e = .returned (.bool true) ∧ J (pre ++ [x]) W' ∧ Kp n₀ Bn W W') ∨ (e = .returned (.bool false) ∧ Jx (pre ++ [x]) W'))
    (hBn : Bn < W.heap.size) (hc : W.cell? ⟨Bn, 0, none⟩ = some (.pointer (some ⟨h.q, 0, none⟩))) (k : QLies w a h s L) (hW : Chg (fun _ => False) w W) (h0 : J [] W) :
    CallsIn F n Try.prog 79 #[.func (.yield l) #[] #[], (.pointer (some ⟨Bn, 0, none⟩))] W fun e W' => (∃ v, e = .returned v) ∧
      ((∃ ys, ys = L ∧ J ys W') ∨ (∃ pre, pre <+: L ∧ Jx pre W')) := by
  have hm1 : (-1 : Int) ∉ L := fun hm => by have := (k.li.pl hm).2; omega
  have hnd := k.li.nodup
  have lq := blk_lt k.head
  have kW := k.fresh hW
  have c1 := kW.c1
  have hnW : ∀ W', Below n₀ W W' → QLies W' a h s L ∧ Chg (fun _ => False) w W' := fun W' hb => by
    have : Chg (fun _ => False) w W' := ⟨hb.os.trans hW.os, hb.tape.trans hW.tape, hb.output.trans hW.output, Nat.le_trans hW.size hb.size, fun b hb' _ => (hb.block b (by omega)).trans (hW.block b hb' id)⟩
    exact ⟨k.fresh this, this⟩
  replace GC := Lib.hid GC
  replace hnW := Lib.hid hnW
  replace hY := Lib.hid hY
  replace hJ := Lib.hid hJ
  refine callsIn_of_wp Try.func79 rfl hf ?_ hro
  simp only [Try.ntmps79, List.size_toArray, List.length_cons, List.length_nil, Nat.reduceAdd, Nat.reduceSub, Array.replicate_succ, Array.replicate_zero, List.push_toArray, List.append_toArray, List.nil_append, List.cons_append]
  generalize hfirst : L.headD (-1) = first at c1
  clear kW k
  gi_wp2
  gi_loopw [3] (fun p wr => ∃ (pre rest : List Int), p = .int .i64 (rest.headD (-1)) ∧ L = pre ++ rest ∧ Kp n₀ Bn W wr ∧ J pre wr) (fun p wr => toCome L p)
  case atStart =>
    exact ⟨[], L, by rw [hfirst], rfl, ⟨Below.refl _ _, rfl⟩, h0⟩
  case round =>
    obtain ⟨pre, rest, rfl, hx, hb, hJs⟩ := hrel
    cases rest with
    | nil =>
      dsimp only [List.headD_nil] at *
      clear hnd hm1 c1 hfirst GC hnW hY
      gi_wp2
      refine ⟨fun _ h => (by cases h), ?_⟩
      gi_wp2
      go_end0
      exact ⟨⟨_, rfl⟩, .inl ⟨pre, by simp [hx], hJs⟩⟩
    | cons x rest =>
      have t : (x != -1) = true := by rw [bne_iff_ne]; exact fun e => hm1 (by rw [hx, ← e]; simp)
      obtain ⟨fn, tmps, assign, body, hy, hR⟩ := hY.out pre x wr hJs (by rw [hx]; simp)
      replace hR := Lib.hid hR
      have hd : (x :: rest).headD (-1) = x := rfl
      rw [hd]
      clear hd
      gi_wp2
      refine hR.out.mono ?_
      rintro e W3 (⟨rfl, hJ3, hk3⟩ | ⟨rfl, hJx3⟩)
      · obtain ⟨k3, f3⟩ := hnW.out W3 (hb.trans hk3).1
        have d1 : W3.cell? ⟨Bn, 0, none⟩ = some (.pointer (some ⟨h.q, 0, none⟩)) := (hb.trans hk3).cell.trans hc
        have d0 := k3.c0
        have C3 := GC.out W3 x rest pre f3 hx
        have hlt := toCome_less (by rw [← hx]; exact hnd) (by rw [← hx]; exact hm1)
        rw [← hx] at hlt
        have J3 := Lib.hid hJ3
        have B3 := Lib.hid (hb.trans hk3)
        have X := Lib.hid hx
        clear k3 f3 hk3 hb hJ3 hJs c1 hc hfirst hx hm1 hnd GC hY hR hnW
        generalize hnx : rest.headD (-1) = nx at C3 hlt
        replace hnx := Lib.hid hnx
        gi_wp2_with (gi_at_call 22; refine C3.mono ?_; rintro e w4 ⟨rfl, f4⟩; have F4 := Lib.hid f4; clear f4 C3 d1 d0)
        go_roundw
        case rel => exact ⟨pre ++ [x], rest, by rw [hnx.out], by rw [X.out]; simp, ⟨⟨F4.out.os.trans B3.out.1.os, F4.out.tape.trans B3.out.1.tape, F4.out.output.trans B3.out.1.output, Nat.le_trans B3.out.1.size F4.out.size, fun b hb => (F4.out.block b (Nat.lt_of_lt_of_le hb (Nat.le_trans hn₁ B3.out.1.size)) id).trans (B3.out.1.block b hb)⟩, (F4.out.block Bn (Nat.lt_of_lt_of_le hBn B3.out.1.size) id).trans B3.out.2⟩, hJ.out _ _ _ none J3.out (grown_of_chg F4.out) (fun r e => by cases e)⟩
        case measure => exact hlt
      · clear hnd hm1 c1 hfirst GC hnW hY hR
        gi_wp2
        go_end0
        exact ⟨⟨_, rfl⟩, .inr ⟨pre ++ [x], ⟨rest, by simp [hx]⟩, hJx3⟩⟩
theorem items_calls (q : Nat) : Calls Try.prog 55 #[(.pointer (some ⟨q, 0, none⟩))] w fun e w' => e = .returned (.func (.func 79) #[] #[(.pointer (some ⟨w.heap.size, 0, none⟩))]) ∧ w' = w.alloc (.cells #[(.pointer (some ⟨q, 0, none⟩))] 28) := by
  go_enter Try.func55, Try.ntmps55
  go_wp2
  go_ret
  exact ⟨rfl, rfl⟩
theorem items_stops (F : Fence) (n : Nat) (hf : F.fn 79) (hg : F.fn 22) (hro : F.round = none) (hn : 1 ≤ n) (Bn n₀ : Nat) (w1 : World)
    (GC : ∀ W x C A, Chg (fun _ => False) w W → L = A ++ x :: C → CallsIn F (n - 1) Try.prog 22 #[(.pointer (some ⟨a.g, 0, none⟩)), (.int .i64 x), (.int .i64 2)] W (Ans2 W (C.headD (-1)) 0))
    (hn₀ : w.heap.size ≤ n₀) (hB : Bn < w1.heap.size) (h1 : n₀ ≤ w1.heap.size) (hc : w1.cell? ⟨Bn, 0, none⟩ = some (.pointer (some ⟨h.q, 0, none⟩))) (k : QLies w a h s L) (hw : Chg (fun _ => False) w w1) :
    SeqStopsK F n Try.prog 79 #[(.pointer (some ⟨Bn, 0, none⟩))] (fun x : Int => #[Value.int .i64 x]) (Kp n₀ Bn) (fun ys => ys = L) (fun pre => pre <+: L) L.length w1 := fun l J Jx W hW hJ _ hY h0 =>
  items1_in F n hf hg hro hn l Bn n₀ J Jx GC W hJ hn₀ (Nat.le_trans h1 hW.size) hY (Nat.lt_of_lt_of_le hB hW.size) ((hW.cell (p := ⟨Bn, 0, none⟩) hB).trans hc) k (hw.trans (Chg.of_below hW)) h0
theorem info_int : (Try.prog.info? 3).map (fun i => (i.zero, i.size, i.bytes)) = some (some (.int .i64 0), 1, 8) := by kernel_rfl
set_option maxHeartbeats 2000000 in
theorem list_calls (k : QLies w a h s L) (hlen : L.length ≤ 1000000) : Calls Try.prog 19 #[(.pointer (some ⟨h.q, 0, none⟩))] w (fun e w' => ∃ v, e = .returned v ∧ Mem.Own w' w.heap.size 3 .i64 v L ∧ Chg (fun _ => False) w w') := by
  have GC := fun (W : World) (x : Int) (C A : List Int) (hc : Chg (fun _ => False) w W) (hx : L = A ++ x :: C) => by
    have hm : x ∈ L := by rw [hx]; simp
    have fl := (by have := k.li; rw [hx] at this; exact this : LI s (A ++ x :: C)).fields
    have := get_calls (k.fresh hc).lies x 2 (pl_i64 (k.li.pl hm).1)
    rw [itemGet2 (k.li.hdr x hm), fl.2] at this
    exact this
  refine (callsIn_wide (n := 3)).1 ?_
  obtain ⟨i0, hi, hz0, hz1, hz2⟩ := info_parts info_int
  refine callsIn_of_wp_marks Try.func19 rfl trivial ?_ rfl
  simp only [Try.ntmps19, List.size_toArray, List.length_cons, List.length_nil, Nat.reduceAdd, Nat.reduceSub, Array.replicate_succ, Array.replicate_zero, List.push_toArray, List.append_toArray, List.nil_append, List.cons_append]
  have IC := fun (W : World) => items_calls (w := W) h.q
  gi_wp2_with (refine ⟨trivial, ?_⟩; gi_at_call 55; refine (callsIn_wide.2 (IC _)).mono ?_; rintro e w' ⟨rfl, rfl⟩)
  have bO := Boxed.new w 30 (.slice none 0 0)
  have bN := Boxed.new (w.alloc (.cells #[.slice none 0 0] 30)) 28 (.pointer (some ⟨h.q, 0, none⟩))
  rw [World.size_alloc] at bN
  have hB0 : Below w.heap.size w ((w.alloc (.cells #[.slice none 0 0] 30)).alloc (.cells #[(.pointer (some ⟨h.q, 0, none⟩))] 28)) := ((Below.refl _ w).alloc (Nat.le_refl _) _).alloc (by simp) _
  have hst := items_stops Fence.wide 2 trivial trivial rfl (by decide) (w.heap.size + 1) w.heap.size ((w.alloc (.cells #[.slice none 0 0] 30)).alloc (.cells #[(.pointer (some ⟨h.q, 0, none⟩))] 28)) (fun W x C A hc hx => callsIn_wide.2 (GC W x C A hc hx)) (Nat.le_refl _) (by simp) (by simp; omega) bN.cell k (Chg.of_below hB0)
  refine wpIn_rangeFunc_ownG rfl (by decide) (gf := 79) (lb := #[(.pointer (some ⟨w.heap.size + 1, 0, none⟩))]) rfl trivial (enters_of Try.func79 (by kernel_rfl) rfl) hst
    (fun h k => h.trans k) (fun W l o o' hl h1 h2 h3 => ⟨belowK_b (w := (w.alloc (.cells #[.slice none 0 0] 30)).alloc (.cells #[(.pointer (some ⟨h.q, 0, none⟩))] 28)) (by simp; omega) W l o o' hl h1 h2 h3, World.putObj_heap_other (by simp at hl; omega)⟩) (Below.refl _ _) (fun _ => rfl)
    (fun pre W => (∃ v, Boxed W w.heap.size 30 v ∧ W.ownsRow w.heap.size 3 1 v pre.length (nums .i64 pre) ∧ True) ∧ Boxed W (w.heap.size + 1) 28 (.pointer (some ⟨h.q, 0, none⟩)) ∧ Below w.heap.size w W)
    (fun _ _ _ => False)
    (OwnFrom.and (Own.from (holdsRow_own w.heap.size w.heap.size 30 3 1 (fun pre => pre.length) (fun pre => nums .i64 pre) (fun pre v => True)) _) (OwnFrom.and (Own.from (boxed_own _ _ _) _) (ownFrom_below (Nat.le_refl _) (by simp; omega))))
    (fun _ _ _ _ _ hs _ _ => hs)
    ⟨⟨_, bO.alloc _, World.ownsRow_nil _ _ _ _, trivial⟩, bN, hB0⟩
    (fun x => { tmps := #[(.pointer (some ⟨h.q, 0, none⟩)), undef, .slice none 0 0, (.pointer (some ⟨w.heap.size, 0, none⟩)), (.int .i64 x), (.pointer (some ⟨h.q, 0, none⟩)), .func (.func 79) #[] #[(.pointer (some ⟨w.heap.size + 1, 0, none⟩))], (.int .i64 x), undef, undef, undef, undef, undef], defers := [] }) ?assign ?body ?done ?stop
  case assign =>
    intro l x W K hK
    gi_wp2
    exact hK
  case body =>
    rintro l pre x W ⟨⟨v, hv, hrow, -⟩, hN, hB⟩ hlt
    have hc := hv.cell
    have hpl : pre.length + 1 ≤ maxLen ∧ (pre.length + 1) * 8 ≤ 140737488355328 := ⟨by unfold maxLen; omega, by omega⟩
    clear hst bO bN hB0 GC IC k
    gi_wp2_with (gi_at_builtin; refine wpListIn_append_own _ rfl _ _ 30 rfl w.heap.size 3 i0 (.int .i64 0) 1 8 Try.underlying30 hi hz0 hz1 hz2 rfl (by decide) _ _ _ rfl (hrow.alloc _) ⟨W.heap.size, 0, none⟩ 1 1 [.int .i64 x] rfl rfl (cell_one_new _ _ _) (by simp [Value.oneCell']) hpl.1 hpl.2 (by have := hB.size; simp; omega) ?_; intro v' w1 hown' hgrow _; obtain ⟨g', cap', rfl⟩ := ownsRow_succ hown'; have hn1 := ((hN.alloc _).kept hgrow (hN.not_row (by decide) hrow)).kept (grownBy_setCell' w1 w.heap.size (.slice (some ⟨g', 0, none⟩) (pre.length + 1) cap')) (by simp); obtain ⟨hv1, hv2, hr2, hk2, hb2⟩ := hv.appended (by decide) hrow hB.size (Nat.le_refl _) hown' hgrow; have hc1 := hv1.cell; have hf1 := hv1.frozen)
    exact ⟨hk2.from _, ⟨hb2, hn1.trans hN.symm⟩, ⟨_, hv2, by rw [List.length_append, List.length_singleton, nums_append]; exact hr2, trivial⟩, hn1, hB.trans hb2⟩
  case done =>
    rintro D ys W hD rfl ⟨⟨v, hv, hrow, -⟩, hN, hB⟩ hK
    have hc := hv.cell
    gi_wp2
    refine ⟨by simp, .inl ⟨_, _, rfl, run_takeDeferred hK, ?_⟩⟩
    exact ⟨_, results_tmp rfl _ _ _, v, rfl, ownsRow_putObj hrow _ hK rfl, Chg.of_below (hB.trans (belowK_b (w := w) (Nat.le_refl _) W D _ _ (by simp at hD; omega) hK rfl rfl))⟩
  case stop =>
    rintro D c pre W _ _ h _
    exact h.elim
end Go.Proofs.Ytfhffffdhlofgaa.Links
