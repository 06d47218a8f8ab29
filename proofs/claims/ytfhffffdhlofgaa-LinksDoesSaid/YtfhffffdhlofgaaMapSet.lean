/- A map from numbers to true, as a set: what is asked, laid in, taken out, counted. No program in sight. -/
import Derived.Test.YtfhffffdhlofgaaMem
import Derived.MapKept
namespace Go.Proofs.Ytfhffffdhlofgaa.Mem
open Go Go.RowKit Go.MapKept
set_option linter.unusedVariables false
set_option maxRecDepth 100000
/-- block b is a map whose keys are the numbers of L, each with true -/
def MSet (w : World) (b : Nat) (L : List Int) : Prop :=
  ∃ (es : Array MapEntry) (clock : Nat) (ks : List Int), w.heap[b]? = some (.map es clock) ∧ es.toList.map (fun e => (e.key, e.val)) = ks.map (fun n => (Value.int .i64 n, Value.bool true)) ∧ ks.Perm L ∧ L.Nodup
theorem MSet.lt {w : World} {b : Nat} {L : List Int} (h : MSet w b L) : b < w.heap.size := by
  obtain ⟨es, clock, ks, hb, _⟩ := h
  exact blk_lt hb
theorem MSet.chg {w w' : World} {b : Nat} {L : List Int} {S : Nat → Prop} (h : MSet w b L) (hc : Chg S w w') (hs : ¬ S b) : MSet w' b L := by
  obtain ⟨es, clock, ks, hb, r⟩ := h
  exact ⟨es, clock, ks, hc.keep hb hs, r⟩
theorem MSet.perm {w : World} {b : Nat} {L M : List Int} (h : MSet w b L) (hp : L.Perm M) : MSet w b M := by
  obtain ⟨es, clock, ks, hb, h1, h2, h3⟩ := h
  exact ⟨es, clock, ks, hb, h1, h2.trans hp, hp.nodup_iff.1 h3⟩
theorem MSet.made (w : World) : MSet (w.alloc (.map #[] 0)) w.heap.size [] :=
  ⟨#[], 0, [], by show (w.heap.push _)[w.heap.size]? = _; rw [Array.getElem?_push_size], rfl, List.Perm.refl _, List.nodup_nil⟩
/-- what is laid into a map's block -/
theorem chg_map (w : World) (b : Nat) (o : Obj) : Chg (fun x => x = b) w { w with heap := w.heap.setIfInBounds b o } :=
  ⟨rfl, rfl, rfl, by simp, fun x _ hx => by
    show (w.heap.setIfInBounds b o)[x]? = _
    rw [Array.getElem?_setIfInBounds, if_neg (fun e => hx e.symm)]⟩
theorem eraseIdx_of_map {α β : Type} (f : α → β) : ∀ (l : List α) (i : Nat), (l.map f).eraseIdx i = (l.eraseIdx i).map f
  | [], _ => by simp
  | x :: l, 0 => rfl
  | x :: l, i + 1 => by simp [eraseIdx_of_map f l i]
theorem eraseIdx_nodup : ∀ (l : List Int) (j : Nat) (n : Int), l.Nodup → l[j]? = some n → l.eraseIdx j = l.erase n
  | [], j, n, _, h => by simp at h
  | x :: l, 0, n, _, h => by
    injection h with h
    subst h
    simp
  | x :: l, j + 1, n, hn, h => by
    have h' : l[j]? = some n := h
    have hx : x ≠ n := fun e => by
      subst e
      exact (List.nodup_cons.1 hn).1 (List.mem_of_getElem? h')
    rw [List.eraseIdx_cons_succ, List.erase_cons_tail (by simpa using hx), eraseIdx_nodup l j n (List.nodup_cons.1 hn).2 h']
section
variable {P : Program} {w : World} {b : Nat} {L : List Int} {t kt et : TypeId}
theorem entries_find {es : List MapEntry} {ks : List Int} (h : es.map (fun e => (e.key, e.val)) = ks.map (fun n => (Value.int .i64 n, Value.bool true))) (n : Int) :
    (n ∉ ks ∧ Instr.findNow (.int .i64) (.int .i64 n) es 0 = some none) ∨ ∃ j, ks[j]? = some n ∧ Instr.findNow (.int .i64) (.int .i64 n) es 0 = some (some (j, .bool true)) := by
  have hk : ∀ (j : Nat) (e : MapEntry), es[j]? = some e → ∃ m, ks[j]? = some m ∧ e.key = .int .i64 m ∧ e.val = .bool true := fun j e he => by
    have h1 : (es.map (fun e => (e.key, e.val)))[j]? = some (e.key, e.val) := by rw [List.getElem?_map, he]; rfl
    rw [h, List.getElem?_map] at h1
    cases hj : ks[j]? with
    | none => rw [hj] at h1; cases h1
    | some m =>
      rw [hj] at h1
      injection h1 with h1
      injection h1 with h2 h3
      exact ⟨m, rfl, h2.symm, h3.symm⟩
  have keys : ∀ x ∈ es, IsKey (.int .i64) x.key := fun x hx => by
    obtain ⟨j, hj⟩ := List.getElem?_of_mem hx
    obtain ⟨m, _, e, _⟩ := hk j x hj
    rw [e]; rfl
  rcases findNow_spec (d := .int .i64) (k := .int .i64 n) rfl es 0 keys with ⟨h1, h2⟩ | ⟨j, e, h1, h2, h3⟩
  · refine .inl ⟨fun hn => ?_, h1⟩
    obtain ⟨j, hj⟩ := List.getElem?_of_mem hn
    have hl : es.length = ks.length := by have := congrArg List.length h; simpa using this
    have hjl : j < es.length := by
      rcases Nat.lt_or_ge j ks.length with h | h
      · omega
      · rw [List.getElem?_eq_none h] at hj; cases hj
    obtain ⟨m, e1, e2, _⟩ := hk j _ (List.getElem?_eq_getElem hjl)
    rw [hj] at e1
    injection e1 with e1
    subst e1
    exact h2 _ (List.getElem_mem hjl) e2
  · obtain ⟨m, e1, e2, e3⟩ := hk j e h2
    rw [h3] at e2
    injection e2 with _ e2
    subst e2
    rw [Nat.zero_add, e3] at h1
    exact .inr ⟨j, e1, h1⟩
theorem MSet.lookup (h : MSet w b L) (ht : P.underlying t = some (.map kt et)) (hkt : P.underlying kt = some (.int .i64)) (hz : (zeroValue et).run P w = .ok (.bool false) w) (n : Int) :
    (Instr.lookup t (.map (some b)) (.int .i64 n) false).run P w = .ok (.bool (decide (n ∈ L))) w := by
  obtain ⟨es, clock, ks, hb, h1, h2, h3⟩ := h
  rcases entries_find h1 n with ⟨hn, hf⟩ | ⟨j, hj, hf⟩
  · rw [decide_eq_false (fun hm => hn (h2.mem_iff.2 hm))]
    simp [Instr.lookup, run_underlying ht, MapKept.run_getObj_map hb, MapKept.run_checkKey hkt (show IsKey (.int .i64) (.int .i64 n) from rfl), MapKept.run_findKey hkt hf, hz, Result.andThen]
  · rw [decide_eq_true (h2.mem_iff.1 (List.mem_of_getElem? hj))]
    simp [Instr.lookup, run_underlying ht, MapKept.run_getObj_map hb, MapKept.run_checkKey hkt (show IsKey (.int .i64) (.int .i64 n) from rfl), MapKept.run_findKey hkt hf, Result.andThen]
theorem MSet.update (h : MSet w b L) (ht : P.underlying t = some (.map kt et)) (hkt : P.underlying kt = some (.int .i64)) (n : Int) (hn : n ∉ L) :
    ∃ w', (Instr.mapUpdate t (.map (some b)) (.int .i64 n) (.bool true)).run P w = .ok () w' ∧ MSet w' b (n :: L) ∧ Chg (fun x => x = b) w w' := by
  obtain ⟨es, clock, ks, hb, h1, h2, h3⟩ := h
  rcases entries_find h1 n with ⟨hn', hf⟩ | ⟨j, hj, hf⟩
  · refine ⟨_, by simp [Instr.mapUpdate, run_underlying ht, MapKept.run_getObj_map hb, MapKept.run_checkKey hkt (show IsKey (.int .i64) (.int .i64 n) from rfl), MapKept.run_findKey hkt hf, MapKept.run_setObj_map _ hb, Result.andThen]; rfl, ⟨es.push { key := .int .i64 n, val := .bool true, born := clock }, clock + 1, ks ++ [n], ?_, ?_, ?_, ?_⟩, chg_map w b _⟩
    · exact (heap_set hb).1
    · rw [Array.toList_push, List.map_append, h1, List.map_append]; rfl
    · exact (List.perm_append_comm).trans (h2.cons n)
    · exact List.nodup_cons.2 ⟨hn, h3⟩
  · exact absurd (h2.mem_iff.1 (List.mem_of_getElem? hj)) hn
theorem MSet.delete (h : MSet w b L) (ht : P.underlying t = some (.map kt et)) (hkt : P.underlying kt = some (.int .i64)) (n : Int) (hn : n ∈ L) (ty kt' : TypeId) :
    ∃ w', (Builtin.delete_ #[t, kt'] ty #[.map (some b), .int .i64 n]).run P w = .ok (.tuple #[]) w' ∧ MSet w' b (L.erase n) ∧ Chg (fun x => x = b) w w' := by
  obtain ⟨es, clock, ks, hb, h1, h2, h3⟩ := h
  rcases entries_find h1 n with ⟨hn', hf⟩ | ⟨j, hj, hf⟩
  · exact absurd (h2.mem_iff.2 hn) hn'
  · have hl : es.size = ks.length := by have := congrArg List.length h1; simpa using this
    have hjl : j < ks.length := by
      rcases Nat.lt_or_ge j ks.length with h | h
      · exact h
      · rw [List.getElem?_eq_none h] at hj; cases hj
    have nk : ks.Nodup := h2.nodup_iff.2 h3
    refine ⟨_, by simp [Builtin.delete_, run_underlying ht, MapKept.run_getObj_map hb, MapKept.run_checkKey hkt (show IsKey (.int .i64) (.int .i64 n) from rfl), MapKept.run_findKey hkt hf, MapKept.run_setObj_map _ hb, Result.andThen]; rfl, ⟨es.eraseIdxIfInBounds j, clock, ks.eraseIdx j, ?_, ?_, ?_, ?_⟩, chg_map w b _⟩
    · exact (heap_set hb).1
    · have e : (es.eraseIdxIfInBounds j).toList = es.toList.eraseIdx j := by
        unfold Array.eraseIdxIfInBounds
        rw [dif_pos (by omega)]
        simp
      rw [e, ← eraseIdx_of_map, h1, eraseIdx_of_map]
    · have e : ks.eraseIdx j = ks.erase n := eraseIdx_nodup ks j n nk hj
      rw [e]
      exact h2.erase n
    · exact h3.erase n
theorem MSet.len (h : MSet w b L) (ht : P.underlying t = some (.map kt et)) (ty : TypeId) : (Builtin.len_ #[t] ty #[.map (some b)]).run P w = .ok (.int .i64 L.length) w := by
  obtain ⟨es, clock, ks, hb, h1, h2, h3⟩ := h
  have hl : es.size = ks.length := by have := congrArg List.length h1; simpa using this
  have e : es.size = L.length := by rw [hl]; exact h2.length_eq
  simp [Builtin.len_, run_underlying ht, MapKept.run_getObj_map hb, Result.andThen, e]
  rfl
end
end Go.Proofs.Ytfhffffdhlofgaa.Mem
