/- Rows of the call's own: what append makes out of a list of numbers, wherever they lie. No program in sight. -/
import Derived.Test.YtolpjgpimholcaaMem
import Derived.Laws.AppendOwnNone
import Derived.Maps.AppendAt
import Derived.OwnWalk
namespace Go.Proofs.Ytolpjgpimholcaa.Mem
open Go Go.RowKit
set_option linter.unusedVariables false

/-- a row of the call's own from block base on, with these numbers -/
def Own (w : World) (base : Nat) (e : TypeId) (k : IntKind) (v : Value) (l : List Int) : Prop := w.ownsRow base e 1 v l.length (nums k l)
theorem Own.form {w : World} {base : Nat} {e : TypeId} {k : IntKind} {v : Value} {l : List Int} (h : Own w base e k v l) : ∃ A c, v = .slice A l.length c := by
  rcases h.2 with ⟨rfl, h0⟩ | ⟨g, cap, cur, rfl, _⟩
  · exact ⟨none, 0, by rw [h0]⟩
  · exact ⟨_, _, rfl⟩
theorem Own.sl {w : World} {base : Nat} {e : TypeId} {k : IntKind} {A : Option Addr} {n c : Nat} {l : List Int} (h : Own w base e k (.slice A n c) l) : Sl w k A l := by
  intro i hi
  rcases h.2 with ⟨h0, h1⟩ | ⟨g, cap, cur, hv, hg, hh, hn, hm, hs, ht⟩
  · omega
  · injection hv with hA _ _
    subst hA
    refine ⟨_, rfl, ?_⟩
    exact World.ownsRow.cells (v := .slice (some ⟨g, 0, none⟩) n c) h rfl i _ (nums_get k l i hi)
theorem Own.base {w : World} {base : Nat} {e : TypeId} {k : IntKind} {A : Option Addr} {n c : Nat} {l : List Int} (h : Own w base e k (.slice A n c) l) : ∀ ad, A = some ad → base ≤ ad.block ∧ ad.block < w.heap.size ∧ ad = ⟨ad.block, 0, none⟩ := by
  intro ad e
  subst e
  rcases h.2 with ⟨h0, _⟩ | ⟨g, cap, cur, hv, hg, hh, _⟩
  · cases h0
  · injection hv with hA _ _
    injection hA with hA
    subst hA
    exact ⟨hg, blk_lt hh, rfl⟩
/-- the row as it lies -/
theorem Own.blk {w : World} {base : Nat} {e : TypeId} {k : IntKind} {A : Option Addr} {n c : Nat} {l : List Int} (h : Own w base e k (.slice A n c) l) (hl : 0 < l.length) :
    ∃ g, ∃ cs : List Value, A = some ⟨g, 0, none⟩ ∧ base ≤ g ∧ w.heap[g]? = some (.cells cs.toArray e (0, 0)) ∧ n = l.length ∧ l.length ≤ cs.length ∧ cs.length = c ∧ c ≤ maxLen ∧ ∀ j, j < l.length → cs[j]? = some (.int k (l.getD j 0)) := by
  rcases h.2 with ⟨h0, h1⟩ | ⟨g, cap, cur, hv, hg, hh, hn, hm, hs, ht⟩
  · omega
  · injection hv with hA hn' hc
    subst hA hc
    have hcs : cur.toList.length = c := by rw [Array.length_toList, hs, Nat.mul_one]
    refine ⟨g, cur.toList, rfl, hg, by simpa using hh, hn', by omega, hcs, hm, fun j hj => ?_⟩
    have h2 : (nums k l)[j]? = some (.int k (l.getD j 0)) := nums_get k l j hj
    rw [← ht, List.getElem?_take, if_pos (by omega)] at h2
    exact h2
theorem Own.of_blk {w : World} {base g c : Nat} {e : TypeId} {k : IntKind} {l : List Int} {cs : List Value} (hg : base ≤ g) (hh : w.heap[g]? = some (.cells cs.toArray e (0, 0))) (h1 : l.length ≤ cs.length) (h2 : cs.length = c) (h3 : c ≤ maxLen)
    (h : ∀ j, j < l.length → cs[j]? = some (.int k (l.getD j 0))) : Own w base e k (.slice (some ⟨g, 0, none⟩) l.length c) l := by
  refine ⟨by rw [nums_length, Nat.mul_one], .inr ⟨g, c, cs.toArray, rfl, hg, hh, by omega, h3, by simpa using h2, ?_⟩⟩
  apply List.ext_getElem?
  intro j
  simp only [Nat.mul_one]
  rw [List.getElem?_take]
  by_cases hj : j < l.length
  · rw [if_pos hj, nums_get k l j hj, ← h j hj]
  · rw [if_neg hj, List.getElem?_eq_none (by rw [nums_length]; omega)]
theorem Own.chg {w w' : World} {base : Nat} {e : TypeId} {k : IntKind} {v : Value} {l : List Int} {S : Nat → Prop} (h : Own w base e k v l) (hc : Chg S w w') (hs : ∀ g, v.ownBlock = some g → ¬ S g) : Own w' base e k v l := by
  refine ⟨h.1, ?_⟩
  rcases h.2 with h2 | ⟨g, cap, cur, rfl, hg, hh, r⟩
  · exact .inl h2
  · exact .inr ⟨g, cap, cur, rfl, hg, hc.keep hh (hs g rfl), r⟩
theorem Own.mono {w : World} {base base' : Nat} {e : TypeId} {k : IntKind} {v : Value} {l : List Int} (h : Own w base e k v l) (hb : base' ≤ base) : Own w base' e k v l := by
  refine ⟨h.1, ?_⟩
  rcases h.2 with h2 | ⟨g, cap, cur, rfl, hg, r⟩
  · exact .inl h2
  · exact .inr ⟨g, cap, cur, rfl, Nat.le_trans hb hg, r⟩
theorem Own.nil (w : World) (base : Nat) (e : TypeId) (k : IntKind) : Own w base e k (.slice none 0 0) [] := World.ownsRow_nil w base e 1
theorem Own.lit (w : World) (e : TypeId) (k : IntKind) (l : List Int) (hm : l.length ≤ maxLen) : Own (w.alloc (.cells (nums k l).toArray e)) w.heap.size e k (.slice (some ⟨w.heap.size, 0, none⟩) l.length l.length) l := by
  have := World.ownsRow_lit (base := w.heap.size) (e := e) (size := 1) w (nums k l).toArray l.length (Nat.le_refl _) hm (by simp [nums_length])
  simpa [Own] using this
theorem nums_append (k : IntKind) (a b : List Int) : nums k (a ++ b) = nums k a ++ nums k b := by simp [nums]
theorem chg_of_grown {w w' : World} {row : Option Nat} {base : Nat} (h : w.grownBy w' row) (hr : ∀ g, row = some g → base ≤ g) : Chg (fun b => base ≤ b) w w' :=
  ⟨h.os, h.tape, h.output, h.size, fun b hb hs => h.block b hb fun e => hs (hr b e.symm)⟩

/-- append onto a row of the call's own, of numbers wherever they lie -/
theorem wpList_app {P : Program} {w : World} {ops : Array Oper} {rest : List Oper} {o : Oper} {a : Act} {Q : Exit → Act → World → Prop} (hgd : o.guard = none) (s x : Operand) (t : TypeId)
    (ho : o.op = .call { callee := .builtin .append, args := #[s, x], argTypes := #[t, t] })
    (base : Nat) (e : TypeId) (k : IntKind) (bytes : Nat) (ht : P.underlying t = some (.slice e)) (hinfo : (P.info? e).map (fun i => (i.zero, i.size, i.bytes)) = some (some (.int k 0), 1, bytes))
    (v : Value) (xs : List Int) (hs : a.eval s = v) (hown : Own w base e k v xs)
    (A : Option Addr) (m c : Nat) (l : List Int) (hx : a.eval x = .slice A m c) (hm : l.length = m) (hsl : Sl w k A l) (hnil : A = none → c = 0)
    (h63 : xs.length + m ≤ maxLen) (hbytes : (xs.length + m) * bytes ≤ 140737488355328) (hbase : base ≤ w.heap.size)
    (h : ∀ A' c' n' w', n' = xs.length + m → Own w' base e k (.slice A' n' c') (xs ++ l) → Chg (fun b => base ≤ b) w w' → wpList P ops Q rest (a.put o.dst (.slice A' n' c')) w') : wpList P ops Q (o :: rest) a w := by
  subst hm
  obtain ⟨i0, hi, hz0, hz1, hz2⟩ := info_parts hinfo
  cases A with
  | none =>
    have hl : l = [] := by
      cases l with
      | nil => rfl
      | cons y ys =>
        obtain ⟨ad, h0, _⟩ := hsl 0 (by simp)
        cases h0
    subst hl
    obtain rfl := hnil rfl
    refine wpList_append_own_none hgd s x t ho base e i0 1 ht hi v xs.length (nums k xs) hs hown (by simpa using hx) ?_
    obtain ⟨A', c', rfl⟩ := hown.form
    exact h A' c' xs.length w (by simp) (by rw [List.append_nil]; exact hown) (Chg.refl _ w)
  | some ad =>
    refine wpList_append_own w hgd s x t ho base e i0 (.int k 0) 1 bytes ht hi hz0 hz1 hz2 rfl (by decide) v xs.length (nums k xs) hs hown ad l.length c (nums k l) hx (by simp [nums_length]) ?_ ?_ h63 hbytes hbase ?_
    · intro j u hu
      have hj : j < l.length := by
        rcases Nat.lt_or_ge j l.length with hlt | hge
        · exact hlt
        · rw [List.getElem?_eq_none (by rw [nums_length]; exact hge)] at hu; cases hu
      obtain ⟨ad', h0, hc⟩ := hsl j hj
      cases h0
      rw [nums_get k l j hj] at hu
      cases hu
      exact hc
    · intro u hu
      simp only [nums, List.mem_map] at hu
      obtain ⟨y, _, rfl⟩ := hu
      rfl
    · intro v' w' hown' hg _
      have ho' : Own w' base e k v' (xs ++ l) := by
        unfold Own
        rw [nums_append, List.length_append]
        exact hown'
      obtain ⟨A', c', rfl⟩ := ho'.form
      refine h A' c' _ w' (by rw [List.length_append]) ho' (chg_of_grown hg ?_)
      intro g hv
      exact (World.ownsRow.lt hown g hv).1

/-- append onto a row of the call's own, as one step of a region that draws its order -/
theorem step_app {P : Program} {w : World} {ops : Array Oper} {o : Oper} {a : Act} {K : Act → World → Prop} {Q : Exit → Act → World → Prop} {E : Prop} (hgd : o.guard = none) (s x : Operand) (t : TypeId)
    (ho : o.op = .call { callee := .builtin .append, args := #[s, x], argTypes := #[t, t] })
    (base : Nat) (e : TypeId) (k : IntKind) (bytes : Nat) (ht : P.underlying t = some (.slice e)) (hinfo : (P.info? e).map (fun i => (i.zero, i.size, i.bytes)) = some (some (.int k 0), 1, bytes))
    (v : Value) (xs : List Int) (hs : a.eval s = v) (hown : Own w base e k v xs)
    (A : Option Addr) (m c : Nat) (l : List Int) (hx : a.eval x = .slice A m c) (hm : l.length = m) (hsl : Sl w k A l) (hnil : A = none → c = 0)
    (h63 : xs.length + m ≤ maxLen) (hbytes : (xs.length + m) * bytes ≤ 140737488355328) (hbase : base ≤ w.heap.size)
    (h : ∀ A' c' n' w', n' = xs.length + m → Own w' base e k (.slice A' n' c') (xs ++ l) → Chg (fun b => base ≤ b) w w' → K (a.put o.dst (.slice A' n' c')) w') :
    if Region.wanted o (yielded ops a.tmps) = true then Oper.wp P o a w K Q else E := by
  have hw : Region.wanted o (yielded ops a.tmps) = true := by simp [Region.wanted, hgd]
  rw [if_pos hw]
  subst hm
  obtain ⟨i0, hi, hz0, hz1, hz2⟩ := info_parts hinfo
  cases A with
  | none =>
    have hl : l = [] := by
      cases l with
      | nil => rfl
      | cons y ys =>
        obtain ⟨ad, h0, _⟩ := hsl 0 (by simp)
        cases h0
    subst hl
    obtain rfl := hnil rfl
    have hrun := run_append_owned_none (P := P) (w := w) base t o.type e i0 1 ht hi v xs.length (nums k xs) hown
    have hx' : a.eval x = .slice none 0 0 := by simpa using hx
    obtain ⟨A', c', rfl⟩ := hown.form
    unfold Oper.wp
    simp [execOp, ho, resolve, invoke, builtin, hs, hx', hrun, Result.andThen]
    exact h A' c' xs.length w (by simp) (by rw [List.append_nil]; exact hown) (Chg.refl _ w)
  | some ad =>
    obtain ⟨v', w', hr, h2, h3, h4, h5⟩ := run_append_own_at (P := P) w base t o.type e i0 (.int k 0) 1 bytes ht hi hz0 hz1 hz2 rfl (by decide) v xs.length (nums k xs) hown ad l.length c (nums k l) (by simp [nums_length]) (fun j u hu => by
      have hj : j < l.length := by
        rcases Nat.lt_or_ge j l.length with hlt | hge
        · exact hlt
        · rw [List.getElem?_eq_none (by rw [nums_length]; exact hge)] at hu; cases hu
      obtain ⟨ad', h0, hc⟩ := hsl j hj
      cases h0
      rw [nums_get k l j hj] at hu
      cases hu
      exact hc) (fun u hu => by
      simp only [nums, List.mem_map] at hu
      obtain ⟨y, _, rfl⟩ := hu
      rfl) h63 hbytes hbase
    have ho' : Own w' base e k v' (xs ++ l) := by
      unfold Own
      rw [nums_append, List.length_append]
      exact h2
    unfold Oper.wp execOp
    simp only [ho, resolve, invoke, builtin, Sem.run_bind, Sem.run_pure, Result.andThen_ok, List.map_toArray, List.map_cons, List.map_nil, hs, hx, hr]
    obtain ⟨A', c', rfl⟩ := ho'.form
    refine h A' c' _ w' (by rw [List.length_append]) ho' (chg_of_grown h3 ?_)
    intro g hv
    exact (World.ownsRow.lt hown g hv).1

end Go.Proofs.Ytolpjgpimholcaa.Mem
