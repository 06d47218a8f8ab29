/- Append onto a row of the call's own, with word of where the new row lies. No program in sight. -/
import Derived.Test.YtolpjgpimholcaaApp
namespace Go.Proofs.Ytolpjgpimholcaa.Mem
open Go Go.RowKit
set_option linter.unusedVariables false

/-- append onto a row of the call's own, of numbers wherever they lie: only the row's own block is written; the new row lies there or in a new block -/
theorem wpList_app_at {P : Program} {w : World} {ops : Array Oper} {rest : List Oper} {o : Oper} {a : Act} {Q : Exit → Act → World → Prop} (hgd : o.guard = none) (s x : Operand) (t : TypeId)
    (ho : o.op = .call { callee := .builtin .append, args := #[s, x], argTypes := #[t, t] })
    (base : Nat) (e : TypeId) (k : IntKind) (bytes : Nat) (ht : P.underlying t = some (.slice e)) (hinfo : (P.info? e).map (fun i => (i.zero, i.size, i.bytes)) = some (some (.int k 0), 1, bytes))
    (v : Value) (xs : List Int) (hs : a.eval s = v) (hown : Own w base e k v xs)
    (A : Option Addr) (m c : Nat) (l : List Int) (hx : a.eval x = .slice A m c) (hm : l.length = m) (hsl : Sl w k A l) (hnil : A = none → c = 0)
    (h63 : xs.length + m ≤ maxLen) (hbytes : (xs.length + m) * bytes ≤ 140737488355328) (hbase : base ≤ w.heap.size)
    (h : ∀ A' c' n' w', n' = xs.length + m → Own w' base e k (.slice A' n' c') (xs ++ l) → Chg (fun b => v.ownBlock = some b) w w' → ((Value.slice A' n' c').ownBlock = v.ownBlock ∨ (Value.slice A' n' c').ownBlock = some w.heap.size) → wpList P ops Q rest (a.put o.dst (.slice A' n' c')) w') : wpList P ops Q (o :: rest) a w := by
  subst hm
  obtain ⟨i0, hi, hz0, hz1, hz2⟩ := info_parts hinfo
  cases A with
  | none =>
    have hl : l = [] := by
      cases l with
      | nil => rfl
      | cons y ys =>
        obtain ⟨ad, h0, _⟩ := hsl 0 (by simp)
        cases h0
    subst hl
    obtain rfl := hnil rfl
    refine wpList_append_own_none hgd s x t ho base e i0 1 ht hi v xs.length (nums k xs) hs hown (by simpa using hx) ?_
    obtain ⟨A', c', rfl⟩ := hown.form
    exact h A' c' xs.length w (by simp) (by rw [List.append_nil]; exact hown) (Chg.refl _ w) (Or.inl rfl)
  | some ad =>
    refine wpList_append_own_at w hgd s x t ho base e i0 (.int k 0) 1 bytes ht hi hz0 hz1 hz2 rfl (by decide) v xs.length (nums k xs) hs hown ad l.length c (nums k l) hx (by simp [nums_length]) ?_ ?_ h63 hbytes hbase ?_
    · intro j u hu
      have hj : j < l.length := by
        rcases Nat.lt_or_ge j l.length with hlt | hge
        · exact hlt
        · rw [List.getElem?_eq_none (by rw [nums_length]; exact hge)] at hu; cases hu
      obtain ⟨ad', h0, hc⟩ := hsl j hj
      cases h0
      rw [nums_get k l j hj] at hu
      cases hu
      exact hc
    · intro u hu
      simp only [nums, List.mem_map] at hu
      obtain ⟨y, _, rfl⟩ := hu
      rfl
    · intro v' w' hown' hg _ hat
      have ho' : Own w' base e k v' (xs ++ l) := by
        unfold Own
        rw [nums_append, List.length_append]
        exact hown'
      obtain ⟨A', c', rfl⟩ := ho'.form
      exact h A' c' _ w' (by rw [List.length_append]) ho' ⟨hg.os, hg.tape, hg.output, hg.size, fun b hb hs => hg.block b hb fun e => hs e.symm⟩ hat

/-- two rows lie in two blocks -/
def Apart (v u : Value) : Prop := ∀ g, v.ownBlock = some g → u.ownBlock ≠ some g
theorem Apart.symm {v u : Value} (h : Apart v u) : Apart u v := fun g hu hv => h g hv hu
theorem Apart.grown {w : World} {v v' u : Value} (h : Apart v u) (hat : v'.ownBlock = v.ownBlock ∨ v'.ownBlock = some w.heap.size) (hu : ∀ g, u.ownBlock = some g → g < w.heap.size) : Apart v' u := by
  intro g hv he
  rcases hat with hat | hat
  · exact h g (hat ▸ hv) he
  · rw [hat] at hv
    injection hv with hv
    have := hu g he
    omega
theorem Apart.none (u : Value) (n c : Nat) : Apart (.slice none n c) u := fun g h => by simp [Value.ownBlock] at h
theorem Own.keep {w w' : World} {base : Nat} {e : TypeId} {k : IntKind} {v u : Value} {l : List Int} (h : Own w base e k u l) (hc : Chg (fun b => v.ownBlock = some b) w w') (ha : Apart v u) : Own w' base e k u l :=
  h.chg hc fun g hu hv => ha g hv hu

end Go.Proofs.Ytolpjgpimholcaa.Mem
