/- The plain law of CodecRow, and its rows in memory. -/
import Derived.Test.YtfempngnapkhjaaCodecWorks
import Derived.Test.YtfempngnapkhjaaCodecFacts
import Derived.Test.YtfempngnapkhjaaCodecBuf
import Derived.Test.YtfempngnapkhjaaCodecPuts
import Derived.Test.YtfempngnapkhjaaCodecBack
import Derived.Test.YtfempngnapkhjaaApp2
import Derived.Deep.QuietTactic
import Derived.BigQuiet
import Derived.IntWalk
import Derived.OpenShut
namespace Go.Proofs.Ytfempngnapkhjaa.Codec
open Go.RowKit Go.Proofs.Ytfempngnapkhjaa.Mem Go.Proofs.Ytfempngnapkhjaa.CodecPure
set_option linter.unusedVariables false

/-! ### The plain law -/
/-- k numbers laid one behind another, each still there -/
structure Rowed (B ats ws vs : List Int) (next k : Nat) : Prop where
  len : B.length = 400
  bytes : Bytes B
  la : ats.length = k
  lw : ws.length = k
  lv : vs.length = k
  room : next ≤ 8 * k
  each : ∀ j, j < k → 0 ≤ ats.getD j 0 ∧ (ws.getD j 0 = 1 ∨ ws.getD j 0 = 2 ∨ ws.getD j 0 = 4 ∨ ws.getD j 0 = 8) ∧ ats.getD j 0 + ws.getD j 0 ≤ next ∧ getC B (ats.getD j 0) (ws.getD j 0) = (vs.getD j 0, 0)
def B400 : List Int := List.replicate 400 0
theorem rowed0 : Rowed B400 [] [] [] 0 0 :=
  ⟨by rw [B400, List.length_replicate], fun x hx => by rw [List.eq_of_mem_replicate hx]; decide, rfl, rfl, rfl, Nat.le_refl _, fun j hj => absurd hj (Nat.not_lt_zero j)⟩
theorem getD_app (l : List Int) (x : Int) (j : Nat) : (l ++ [x]).getD j 0 = if j < l.length then l.getD j 0 else if j = l.length then x else 0 := by
  rw [List.getD_eq_getElem?_getD, List.getD_eq_getElem?_getD]
  by_cases h : j < l.length
  · rw [if_pos h, List.getElem?_append_left h]
  · rw [if_neg h, List.getElem?_append_right (by omega)]
    by_cases e : j = l.length
    · rw [if_pos e, e, Nat.sub_self]; rfl
    · rw [if_neg e, List.getElem?_eq_none (by simp; omega)]; rfl
theorem part_same (B : List Int) (o : Nat) (bs : List Int) (a n : Nat) (h : o + bs.length ≤ B.length) (ha : a + n ≤ o) : ((splice B o bs).drop a).take n = (B.drop a).take n := by
  apply List.ext_getElem?
  intro i
  rw [List.getElem?_take, List.getElem?_take]
  by_cases hi : i < n
  · rw [if_pos hi, if_pos hi, List.getElem?_drop, List.getElem?_drop, splice_get _ _ _ h, if_neg (by omega)]
  · rw [if_neg hi, if_neg hi]
theorem Rowed.step {B ats ws vs : List Int} {next k : Nat} (h : Rowed B ats ws vs next k) (hk : k < 40) (n : Nat) (x : Int) (hn : (n : Int) = 1 ∨ (n : Int) = 2 ∨ (n : Int) = 4 ∨ (n : Int) = 8) (x0 : 0 ≤ x) (x1 : x < 2 ^ (8 * n)) :
    ∃ B', putC B (next : Int) (n : Int) x = (B', 0) ∧ Rowed B' (ats ++ [(next : Int)]) (ws ++ [(n : Int)]) (vs ++ [x]) (next + n) (k + 1) := by
  have hr := h.room
  have hl := h.len
  obtain ⟨B', e1, e2, e3, e4, e5⟩ := back_pure B next n x h.bytes hn (by omega) x0 x1
  refine ⟨B', e1, by omega, e3, by rw [List.length_append, h.la]; rfl, by rw [List.length_append, h.lw]; rfl, by rw [List.length_append, h.lv]; rfl, by omega, ?_⟩
  intro j hj
  rw [getD_app, getD_app, getD_app, h.la, h.lw, h.lv]
  by_cases hjk : j < k
  · rw [if_pos hjk, if_pos hjk, if_pos hjk]
    obtain ⟨f1, f2, f3, f4⟩ := h.each j hjk
    refine ⟨f1, f2, by omega, ?_⟩
    have hB' : B' = splice B next (leb x n) := by
      have := e1
      unfold putC at this
      have z2 : ((n : Int)).toNat = n := by omega
      have z1 : ((next : Int)).toNat = next := by omega
      rw [if_pos ⟨hn, by omega, by omega⟩, z1, z2, if_neg (by rw [Int.ediv_eq_zero_of_lt x0 x1]; simp)] at this
      exact (congrArg Prod.fst this).symm
    rw [← f4]
    unfold getC
    rw [e2]
    have p : ((B'.drop (ats.getD j 0).toNat).take (ws.getD j 0).toNat) = ((B.drop (ats.getD j 0).toNat).take (ws.getD j 0).toNat) := by
      rw [hB']
      exact part_same B next (leb x n) _ _ (by rw [leb_length]; omega) (by omega)
    rw [p]
  · have e : j = k := by omega
    subst e
    rw [if_neg hjk, if_neg hjk, if_neg hjk, if_pos rfl, if_pos rfl, if_pos rfl]
    exact ⟨by omega, hn, by omega, e4⟩

/-! ### The rows in memory -/
structure Rows3 (w : World) (base gB : Nat) (a b c : Value) (x y z B : List Int) : Prop where
  oa : Own w base 3 .i64 a x
  ob : Own w base 3 .i64 b y
  oc : Own w base 23 .u64 c z
  bf : Buf w gB B
  ab : Apart a b
  ac : Apart a c
  bc : Apart b c
  aB : a.ownBlock ≠ some gB
  bB : b.ownBlock ≠ some gB
  cB : c.ownBlock ≠ some gB
  hB : base ≤ gB
variable {w w' : World} {base gB : Nat} {a b c : Value} {x y z B : List Int}
theorem Rows3.alloc (h : Rows3 w base gB a b c x y z B) (o : Obj) : Rows3 (w.alloc o) base gB a b c x y z B :=
  have hc := Chg.alloc (fun _ => False) w o
  ⟨h.oa.chg hc fun _ _ h => h, h.ob.chg hc fun _ _ h => h, h.oc.chg hc fun _ _ h => h, h.bf.chg hc id, h.ab, h.ac, h.bc, h.aB, h.bB, h.cB, h.hB⟩
theorem Rows3.draw (h : Rows3 w base gB a b c x y z B) (hd : Dr w w') : Rows3 w' base gB a b c x y z B :=
  have hc := hd.chg (fun _ => False)
  ⟨h.oa.chg hc fun _ _ h => h, h.ob.chg hc fun _ _ h => h, h.oc.chg hc fun _ _ h => h, h.bf.chg hc id, h.ab, h.ac, h.bc, h.aB, h.bB, h.cB, h.hB⟩
theorem Rows3.put {B' : List Int} (h : Rows3 w base gB a b c x y z B) (hb : Buf w' gB B') (hc : Chg (fun b => b = gB) w w') : Rows3 w' base gB a b c x y z B' :=
  ⟨h.oa.chg hc fun g hg e => h.aB (e ▸ hg), h.ob.chg hc fun g hg e => h.bB (e ▸ hg), h.oc.chg hc fun g hg e => h.cB (e ▸ hg), hb, h.ab, h.ac, h.bc, h.aB, h.bB, h.cB, h.hB⟩
theorem far {v v' : Value} {g : Nat} (hv : v.ownBlock ≠ some g) (hat : v'.ownBlock = v.ownBlock ∨ v'.ownBlock = some w.heap.size) (hg : g < w.heap.size) : v'.ownBlock ≠ some g := by
  rcases hat with hat | hat
  · rw [hat]; exact hv
  · rw [hat]; intro h; injection h with h; omega
theorem lt_own {e : TypeId} {k : IntKind} {v : Value} {l : List Int} (h : Own w base e k v l) : ∀ g, v.ownBlock = some g → g < w.heap.size := fun g hg => (World.ownsRow.lt h g hg).2
theorem Rows3.appa {a' : Value} {x' : List Int} (h : Rows3 w base gB a b c x y z B) (ho : Own w' base 3 .i64 a' x') (hc : Chg (fun g => a.ownBlock = some g) w w') (hat : a'.ownBlock = a.ownBlock ∨ a'.ownBlock = some w.heap.size) : Rows3 w' base gB a' b c x' y z B :=
  ⟨ho, h.ob.keep hc h.ab, h.oc.keep hc h.ac, h.bf.chg hc h.aB, h.ab.grown hat (lt_own h.ob), h.ac.grown hat (lt_own h.oc), h.bc, far h.aB hat (blk_lt h.bf), h.bB, h.cB, h.hB⟩
theorem Rows3.appb {b' : Value} {y' : List Int} (h : Rows3 w base gB a b c x y z B) (ho : Own w' base 3 .i64 b' y') (hc : Chg (fun g => b.ownBlock = some g) w w') (hat : b'.ownBlock = b.ownBlock ∨ b'.ownBlock = some w.heap.size) : Rows3 w' base gB a b' c x y' z B :=
  ⟨h.oa.keep hc h.ab.symm, ho, h.oc.keep hc h.bc, h.bf.chg hc h.bB, (h.ab.symm.grown hat (lt_own h.oa)).symm, h.ac, h.bc.grown hat (lt_own h.oc), h.aB, far h.bB hat (blk_lt h.bf), h.cB, h.hB⟩
theorem Rows3.appc {c' : Value} {z' : List Int} (h : Rows3 w base gB a b c x y z B) (ho : Own w' base 23 .u64 c' z') (hc : Chg (fun g => c.ownBlock = some g) w w') (hat : c'.ownBlock = c.ownBlock ∨ c'.ownBlock = some w.heap.size) : Rows3 w' base gB a b c' x y z' B :=
  ⟨h.oa.keep hc h.ac.symm, h.ob.keep hc h.bc.symm, ho, h.bf.chg hc h.cB, h.ab, (h.ac.symm.grown hat (lt_own h.oa)).symm, (h.bc.symm.grown hat (lt_own h.ob)).symm, h.aB, h.bB, far h.cB hat (blk_lt h.bf), h.hB⟩
theorem infoInt : (Try.prog.info? 3).map (fun i => (i.zero, i.size, i.bytes)) = some (some (.int .i64 0), 1, 8) := by kernel_rfl
theorem infoU64 : (Try.prog.info? 23).map (fun i => (i.zero, i.size, i.bytes)) = some (some (.int .u64 0), 1, 8) := by kernel_rfl
theorem mk400 (W : World) : (Instr.makeSlice 22 (.int .i64 400) (.int .i64 400)).run Try.prog W = .ok (.slice (some ⟨W.heap.size, 0, none⟩) 400 400) (W.alloc (.cells (nums .u8 B400).toArray 5)) := by kernel_rfl

end Go.Proofs.Ytfempngnapkhjaa.Codec
