/- Rows of acts that came in: slices of structs of numbers, opened. No program in sight. -/
import Derived.Test.YtolpjgpimholcaaMem
import Derived.Deep.Slices
import Derived.ChangeSlices
import Derived.OpenShut
namespace Go.Proofs.Ytolpjgpimholcaa.Mem
open Go Go.RowKit Go.ChangeShapes Go.WideShapes
set_option linter.unusedVariables false
set_option maxRecDepth 100000
/-- a row of structs that came in, each of numbers of these kinds -/
structure SRow (w : World) (ks : List IntKind) (A : Option Addr) (c : Nat) (l : List (List Int)) : Prop where
  cap : l.length ≤ c
  most : c ≤ maxLen
  cell : ∀ i, i < l.length → ∀ j k, ks[j]? = some k → ∃ ad, A = some ad ∧ w.cell? (ad.add (i * ks.length + j)) = some (.int k ((l.getD i []).getD j 0))
  wf : ∀ i, i < l.length → ∀ j k, ks[j]? = some k → (Lit.int k ((l.getD i []).getD j 0)).wf = true
/-- a field's address, as the walk spells it -/
theorem add_field (ad : Addr) (i j : Nat) : ad.add (i + (j + 1)) = ⟨(ad.add i).block, (ad.add i).off + (j + 1), none⟩ := by
  rw [← add_add]
  show (if j + 1 = 0 then _ else _) = _
  rw [if_neg (by omega)]
theorem SRow.fields {w : World} {ks : List IntKind} {A : Option Addr} {c : Nat} {l : List (List Int)} (h : SRow w ks A c l) (i : Nat) (hi : i < l.length) (hk : 0 < ks.length) :
    ∃ ad, A = some ad ∧ (∀ k, ks[0]? = some k → w.cell? (ad.add (i * ks.length)) = some (.int k ((l.getD i []).getD 0 0))) ∧ ∀ j k, ks[j + 1]? = some k → w.cell? ⟨(ad.add (i * ks.length)).block, (ad.add (i * ks.length)).off + (j + 1), none⟩ = some (.int k ((l.getD i []).getD (j + 1) 0)) := by
  obtain ⟨ad, e, _⟩ := h.cell i hi 0 _ (List.getElem?_eq_getElem hk)
  refine ⟨ad, e, fun k h0 => ?_, fun j k h1 => ?_⟩
  · obtain ⟨ad', e', c⟩ := h.cell i hi 0 k h0
    rw [e] at e'
    cases e'
    rw [Nat.add_zero] at c
    exact c
  · obtain ⟨ad', e', c⟩ := h.cell i hi (j + 1) k h1
    rw [e] at e'
    cases e'
    rw [add_field] at c
    exact c
theorem SRow.chg {w w' : World} {ks : List IntKind} {A : Option Addr} {c : Nat} {l : List (List Int)} {B : Nat} (h : SRow w ks A c l) (hc : Chg (fun b => B ≤ b) w w') (hB : w.heap.size ≤ B) : SRow w' ks A c l where
  cap := h.cap
  most := h.most
  cell i hi j k hk := by
    obtain ⟨ad, e, c⟩ := h.cell i hi j k hk
    refine ⟨ad, e, hc.cell c ?_⟩
    have := World.block_lt_of_cell? w _ c
    omega
  wf := h.wf
section
variable {H : Type} {enc : TypeId × Value → H} {P : Program} {w : World} {base : Nat} {spare : Nat → Bool} {held : Bool}
theorem open_srow {t e : TypeId} {fs : Array Field} {ks : List IntKind} {fuel len cap : Nat} {A : Option Addr} {x : DataW H × List MemPlace} (ht : P.underlying t = some (.slice e)) (he : P.underlying e = some (.struct fs)) (ce : P.cellsOf e = ks.length)
    (hs : fs.size = ks.length) (hf : ∀ j k, ks[j]? = some k → ∃ f : Field, fs[j]? = some f ∧ f.offset = j ∧ P.cellsOf f.type = 1 ∧ P.underlying f.type = some (.int k))
    (h : DataW.trod enc P w base spare held fuel t [.slice A len cap] = some x) : ∃ l : List (List Int), l.length = len ∧ SRow w ks A cap l := by
  rcases Deep.open_slice ht h with ⟨h0, _⟩ | ⟨a, len', cap', m, n, D, Pl, hcs, hb, hl, hm, hmm, _, hx⟩
  · simp at h0
    obtain ⟨rfl, rfl, rfl⟩ := h0
    exact ⟨[], rfl, ⟨Nat.le_refl _, by unfold maxLen; omega, fun i hi => by simp at hi, fun i hi => by simp at hi⟩⟩
  · simp at hcs
    obtain ⟨rfl, rfl, rfl⟩ := hcs
    have hlm : len ≤ m := by rw [hmm]; split <;> omega
    have each : ∀ i, i < len → ∃ r : List Int, ∀ j k, ks[j]? = some k → w.cell? (a.add (i * ks.length + j)) = some (.int k (r.getD j 0)) ∧ (Lit.int k (r.getD j 0)).wf = true := by
      intro i hi
      obtain ⟨cs', h1, h2⟩ := hx i (by omega)
      rw [ce] at h1
      obtain ⟨_, hlen, hcell⟩ := World.cells?_some h1
      obtain ⟨xs, k, hk, _, _, hxl, hg⟩ := DataW.trod_struct he h2
      have one : ∀ j kd, ks[j]? = some kd → ∃ z : Int, w.cell? (a.add (i * ks.length + j)) = some (.int kd z) ∧ (Lit.int kd z).wf = true := by
        intro j kd hj
        have hjl : j < ks.length := by
          rcases Nat.lt_or_ge j ks.length with h | h
          · exact h
          · rw [List.getElem?_eq_none h] at hj; cases hj
        obtain ⟨f, f1, f2, f3, f4⟩ := hf j kd hj
        have g := hg j f f1
        rw [f2, f3, List.getElem?_eq_getElem (by omega)] at g
        obtain ⟨z, e1, _, e3⟩ := DataW.trod_int f4 g
        refine ⟨z, ?_, e3⟩
        have hc := hcell j hjl
        rw [add_add] at hc
        rw [hc]
        have : ((cs'.drop j).take 1)[0]? = some (.int kd z) := by rw [e1]; rfl
        rw [List.getElem?_take, if_pos (by omega), List.getElem?_drop] at this
        exact this
      obtain ⟨Z, hZ⟩ := Deep.choose_lt (α := Int) (p := fun j z => ∀ kd, ks[j]? = some kd → w.cell? (a.add (i * ks.length + j)) = some (.int kd z) ∧ (Lit.int kd z).wf = true) (n := ks.length) (fun j hj => by
        obtain ⟨z, h1, h2⟩ := one j _ (List.getElem?_eq_getElem hj)
        refine ⟨z, fun kd hk => ?_⟩
        rw [List.getElem?_eq_getElem hj] at hk
        injection hk with hk
        subst hk
        exact ⟨h1, h2⟩)
      refine ⟨(List.range ks.length).map Z, fun j kd hj => ?_⟩
      have hjl : j < ks.length := by
        rcases Nat.lt_or_ge j ks.length with h | h
        · exact h
        · rw [List.getElem?_eq_none h] at hj; cases hj
      have e : ((List.range ks.length).map Z).getD j 0 = Z j := by
        rw [List.getD_eq_getElem?_getD, List.getElem?_map, List.getElem?_range hjl]; rfl
      rw [e]
      exact hZ j hjl kd hj
    obtain ⟨R, hR⟩ := Deep.choose_lt (α := List Int) (p := fun i r => ∀ j k, ks[j]? = some k → w.cell? (a.add (i * ks.length + j)) = some (.int k (r.getD j 0)) ∧ (Lit.int k (r.getD j 0)).wf = true) each
    have hg : ∀ i, i < len → ((List.range len).map R).getD i [] = R i := fun i hi => by
      rw [List.getD_eq_getElem?_getD, List.getElem?_map, List.getElem?_range hi]; rfl
    refine ⟨(List.range len).map R, by simp, ⟨by simpa using hl, hm, fun i hi j k hk => ?_, fun i hi j k hk => ?_⟩⟩
    · have hi' : i < len := by simpa using hi
      rw [hg i hi']
      exact ⟨a, rfl, (hR i hi' j k hk).1⟩
    · have hi' : i < len := by simpa using hi
      rw [hg i hi']
      exact (hR i hi' j k hk).2

/-- an act of chapter 05: four numbers and a row of bytes -/
structure Op5 where
  kind : Int
  at_ : Int
  n : Int
  v : Int
  A : Option Addr
  c : Nat
  b : List Int
def Op5.none : Op5 := ⟨0, 0, 0, 0, Option.none, 0, []⟩
instance : Inhabited Op5 := ⟨Op5.none⟩
structure ORow (w : World) (A : Option Addr) (c : Nat) (l : List Op5) : Prop where
  cap : l.length ≤ c
  most : c ≤ maxLen
  op : ∀ i, i < l.length → ∃ ad, A = some ad ∧ w.cell? (ad.add (i * 5)) = some (.int .i64 (l.getD i Op5.none).kind) ∧ w.cell? (ad.add (i * 5 + 1)) = some (.int .i64 (l.getD i Op5.none).at_) ∧ w.cell? (ad.add (i * 5 + 2)) = some (.int .i64 (l.getD i Op5.none).n)
    ∧ w.cell? (ad.add (i * 5 + 3)) = some (.int .u64 (l.getD i Op5.none).v) ∧ w.cell? (ad.add (i * 5 + 4)) = some (.slice (l.getD i Op5.none).A (l.getD i Op5.none).b.length (l.getD i Op5.none).c)
    ∧ (Lit.int .i64 (l.getD i Op5.none).kind).wf = true ∧ (Lit.int .i64 (l.getD i Op5.none).at_).wf = true ∧ (Lit.int .i64 (l.getD i Op5.none).n).wf = true ∧ (Lit.int .u64 (l.getD i Op5.none).v).wf = true ∧ RowOf w .u8 (l.getD i Op5.none).A (l.getD i Op5.none).c (l.getD i Op5.none).b 0
theorem RowOf.later {w w' : World} {k : IntKind} {A : Option Addr} {c b : Nat} {l : List Int} {B : Nat} (h : RowOf w k A c l b) (hc : Chg (fun b => B ≤ b) w w') (hB : w.heap.size ≤ B) : RowOf w' k A c l b :=
  ⟨h.cap, h.most, h.reach, h.sl.later hc hB, h.wf, h.nil⟩
theorem ORow.chg {w w' : World} {A : Option Addr} {c : Nat} {l : List Op5} {B : Nat} (h : ORow w A c l) (hc : Chg (fun b => B ≤ b) w w') (hB : w.heap.size ≤ B) : ORow w' A c l where
  cap := h.cap
  most := h.most
  op i hi := by
    obtain ⟨ad, e, c0, c1, c2, c3, c4, w0, w1, w2, w3, r⟩ := h.op i hi
    have k : ∀ {a : Addr} {v : Value}, w.cell? a = some v → w'.cell? a = some v := fun {a v} hv => hc.cell hv (by have := World.block_lt_of_cell? w _ hv; omega)
    exact ⟨ad, e, k c0, k c1, k c2, k c3, k c4, w0, w1, w2, w3, r.later hc hB⟩
theorem ORow.fields {w : World} {A : Option Addr} {c : Nat} {l : List Op5} (h : ORow w A c l) (i : Nat) (hi : i < l.length) : ∃ ad, A = some ad ∧ w.cell? (ad.add (i * 5)) = some (.int .i64 (l.getD i Op5.none).kind)
    ∧ w.cell? ⟨(ad.add (i * 5)).block, (ad.add (i * 5)).off + 1, none⟩ = some (.int .i64 (l.getD i Op5.none).at_) ∧ w.cell? ⟨(ad.add (i * 5)).block, (ad.add (i * 5)).off + 2, none⟩ = some (.int .i64 (l.getD i Op5.none).n)
    ∧ w.cell? ⟨(ad.add (i * 5)).block, (ad.add (i * 5)).off + 3, none⟩ = some (.int .u64 (l.getD i Op5.none).v) ∧ w.cell? ⟨(ad.add (i * 5)).block, (ad.add (i * 5)).off + 4, none⟩ = some (.slice (l.getD i Op5.none).A (l.getD i Op5.none).b.length (l.getD i Op5.none).c) := by
  obtain ⟨ad, e, c0, c1, c2, c3, c4, _⟩ := h.op i hi
  rw [add_field] at c1 c2 c3 c4
  exact ⟨ad, e, c0, c1, c2, c3, c4⟩
theorem open_orow {t e eb : TypeId} {f0 f1 f2 f3 f4 : Field} {fuel len cap : Nat} {A : Option Addr} {x : DataW H × List MemPlace} (ht : P.underlying t = some (.slice e)) (he : P.underlying e = some (.struct #[f0, f1, f2, f3, f4])) (ce : P.cellsOf e = 5)
    (o : f0.offset = 0 ∧ f1.offset = 1 ∧ f2.offset = 2 ∧ f3.offset = 3 ∧ f4.offset = 4) (cc : P.cellsOf f0.type = 1 ∧ P.cellsOf f1.type = 1 ∧ P.cellsOf f2.type = 1 ∧ P.cellsOf f3.type = 1 ∧ P.cellsOf f4.type = 1)
    (u0 : P.underlying f0.type = some (.int .i64)) (u1 : P.underlying f1.type = some (.int .i64)) (u2 : P.underlying f2.type = some (.int .i64)) (u3 : P.underlying f3.type = some (.int .u64)) (u4 : P.underlying f4.type = some (.slice eb)) (ub : P.underlying eb = some (.int .u8)) (cb : P.cellsOf eb = 1)
    (h : DataW.trod enc P w base spare held fuel t [.slice A len cap] = some x) : ∃ l : List Op5, l.length = len ∧ ORow w A cap l := by
  rcases Deep.open_slice ht h with ⟨h0, _⟩ | ⟨a, len', cap', m, n, D, Pl, hcs, hb, hl, hm, hmm, _, hx⟩
  · simp at h0
    obtain ⟨rfl, rfl, rfl⟩ := h0
    exact ⟨[], rfl, ⟨Nat.le_refl _, by unfold maxLen; omega, fun i hi => by simp at hi⟩⟩
  · simp at hcs
    obtain ⟨rfl, rfl, rfl⟩ := hcs
    have hlm : len ≤ m := by rw [hmm]; split <;> omega
    obtain ⟨o0, o1, o2, o3, o4⟩ := o
    obtain ⟨c0, c1, c2, c3, c4⟩ := cc
    have each : ∀ i, i < len → ∃ r : Op5, w.cell? (a.add (i * 5)) = some (.int .i64 r.kind) ∧ w.cell? (a.add (i * 5 + 1)) = some (.int .i64 r.at_) ∧ w.cell? (a.add (i * 5 + 2)) = some (.int .i64 r.n)
        ∧ w.cell? (a.add (i * 5 + 3)) = some (.int .u64 r.v) ∧ w.cell? (a.add (i * 5 + 4)) = some (.slice r.A r.b.length r.c)
        ∧ (Lit.int .i64 r.kind).wf = true ∧ (Lit.int .i64 r.at_).wf = true ∧ (Lit.int .i64 r.n).wf = true ∧ (Lit.int .u64 r.v).wf = true ∧ RowOf w .u8 r.A r.c r.b 0 := by
      intro i hi
      obtain ⟨cs', h1, h2⟩ := hx i (by omega)
      rw [ce] at h1
      obtain ⟨_, hlen, hcell⟩ := World.cells?_some h1
      obtain ⟨xs, k, hk, _, _, hxl, hg⟩ := DataW.trod_struct he h2
      match cs', hlen, xs, hxl with
      | [v0, v1, v2, v3, v4], _, [y0, y1, y2, y3, y4], _ =>
        have g0 := hg 0 f0 rfl
        have g1 := hg 1 f1 rfl
        have g2 := hg 2 f2 rfl
        have g3 := hg 3 f3 rfl
        have g4 := hg 4 f4 rfl
        simp [o0, o1, o2, o3, o4, c0, c1, c2, c3, c4] at g0 g1 g2 g3 g4
        have d0 := hcell 0 (by omega)
        have d1 := hcell 1 (by omega)
        have d2 := hcell 2 (by omega)
        have d3 := hcell 3 (by omega)
        have d4 := hcell 4 (by omega)
        rw [add_add] at d0 d1 d2 d3 d4
        simp at d0 d1 d2 d3 d4
        obtain ⟨z0, e0, _, w0⟩ := DataW.trod_int u0 g0
        obtain ⟨z1, e1, _, w1⟩ := DataW.trod_int u1 g1
        obtain ⟨z2, e2, _, w2⟩ := DataW.trod_int u2 g2
        obtain ⟨z3, e3, _, w3⟩ := DataW.trod_int u3 g3
        simp at e0 e1 e2 e3
        subst e0 e1 e2 e3
        rcases open_ints u4 ub cb g4 with ⟨e4, _⟩ | ⟨x4, l4, c4', zs, e4, _, hl4, hm4, hz4, _, hcell4, hwz4⟩
        · simp at e4
          subst e4
          exact ⟨⟨z0, z1, z2, z3, none, 0, []⟩, d0, d1, d2, d3, d4, w0, w1, w2, w3, RowOf.none w .u8 0⟩
        · simp at e4
          subst e4
          have hlz : l4 ≤ zs.length := by rw [hz4]; split <;> omega
          have hlt : (zs.take l4).length = l4 := by rw [List.length_take]; omega
          refine ⟨⟨z0, z1, z2, z3, some x4, c4', zs.take l4⟩, d0, d1, d2, d3, ?_, w0, w1, w2, w3, ⟨?_, hm4, by omega, fun j hj => ⟨x4, rfl, ?_⟩, fun y hy => hwz4 y (List.mem_of_mem_take hy), fun h => by cases h⟩⟩
          · show w.cell? _ = some (.slice _ (zs.take l4).length _)
            rw [hlt]; exact d4
          · show (zs.take l4).length ≤ c4'
            rw [hlt]; exact hl4
          · have hj' : j < l4 := by rw [hlt] at hj; exact hj
            rw [hcell4 j (by omega)]
            congr 2
            simp [List.getD_eq_getElem?_getD, hj']
    obtain ⟨R, hR⟩ := Deep.choose_lt (α := Op5) (p := fun i r => w.cell? (a.add (i * 5)) = some (.int .i64 r.kind) ∧ w.cell? (a.add (i * 5 + 1)) = some (.int .i64 r.at_) ∧ w.cell? (a.add (i * 5 + 2)) = some (.int .i64 r.n)
        ∧ w.cell? (a.add (i * 5 + 3)) = some (.int .u64 r.v) ∧ w.cell? (a.add (i * 5 + 4)) = some (.slice r.A r.b.length r.c)
        ∧ (Lit.int .i64 r.kind).wf = true ∧ (Lit.int .i64 r.at_).wf = true ∧ (Lit.int .i64 r.n).wf = true ∧ (Lit.int .u64 r.v).wf = true ∧ RowOf w .u8 r.A r.c r.b 0) each
    have hg : ∀ i, i < len → ((List.range len).map R).getD i Op5.none = R i := fun i hi => by
      rw [List.getD_eq_getElem?_getD, List.getElem?_map, List.getElem?_range hi]; rfl
    refine ⟨(List.range len).map R, by simp, ⟨by simpa using hl, hm, fun i hi => ?_⟩⟩
    have hi' : i < len := by simpa using hi
    rw [hg i hi']
    exact ⟨a, rfl, hR i hi'⟩
end
end Go.Proofs.Ytolpjgpimholcaa.Mem
