import Derived.Test.YtolpjgpimholcaaGd
import Derived.Test.YtolpjgpimholcaaGj
/- A map whose keys are set by numbers below thirty: what is asked, laid in, taken out, counted. No program in sight. -/
namespace Go.Proofs.Ytolpjgpimholcaa.Mem
open Go Go.RowKit Go.MapKept
set_option linter.unusedVariables false
set_option maxRecDepth 100000
/-- block b is a map: the numbers of L, n's key f n, its value g n -/
def KMap (f g : Nat → Value) (w : World) (b : Nat) (L : List Nat) : Prop :=
  ∃ (es : Array MapEntry) (clock : Nat) (ks : List Nat), w.heap[b]? = some (.map es clock) ∧ es.toList.map (fun e => (e.key, e.val)) = ks.map (fun n => (f n, g n)) ∧ ks.Perm L ∧ L.Nodup ∧ ∀ x ∈ L, x < 30
variable {f g : Nat → Value} {P : Program} {w w' : World} {b : Nat} {L M : List Nat} {t kt et : TypeId} {d : TypeDesc}
theorem KMap.lt (h : KMap f g w b L) : b < w.heap.size := by
  obtain ⟨es, clock, ks, hb, _⟩ := h
  exact blk_lt hb
theorem KMap.chg {S : Nat → Prop} (h : KMap f g w b L) (hc : Chg S w w') (hs : ¬ S b) : KMap f g w' b L := by
  obtain ⟨es, clock, ks, hb, r⟩ := h
  exact ⟨es, clock, ks, hc.keep hb hs, r⟩
theorem KMap.perm (h : KMap f g w b L) (hp : L.Perm M) : KMap f g w b M := by
  obtain ⟨es, clock, ks, hb, h1, h2, h3, h4⟩ := h
  exact ⟨es, clock, ks, hb, h1, h2.trans hp, hp.nodup_iff.1 h3, fun x hx => h4 x (hp.mem_iff.2 hx)⟩
theorem KMap.made (f g : Nat → Value) (w : World) : KMap f g (w.alloc (.map #[] 0)) w.heap.size [] :=
  ⟨#[], 0, [], by show (w.heap.push _)[w.heap.size]? = _; rw [Array.getElem?_push_size], rfl, List.Perm.refl _, List.nodup_nil, fun x hx => by simp at hx⟩
theorem eraseIdx_nodupN : ∀ (l : List Nat) (j : Nat) (n : Nat), l.Nodup → l[j]? = some n → l.eraseIdx j = l.erase n
  | [], j, n, _, h => by simp at h
  | x :: l, 0, n, _, h => by
    injection h with h
    subst h
    simp
  | x :: l, j + 1, n, hn, h => by
    have h' : l[j]? = some n := h
    have hx : x ≠ n := fun e => by
      subst e
      exact (List.nodup_cons.1 hn).1 (List.mem_of_getElem? h')
    rw [List.eraseIdx_cons_succ, List.erase_cons_tail (by simpa using hx), eraseIdx_nodupN l j n (List.nodup_cons.1 hn).2 h']
/-- keys that tell numbers below thirty apart -/
structure Keyed (d : TypeDesc) (f : Nat → Value) : Prop where
  key : ∀ n, IsKey d (f n)
  inj : ∀ x y, x < 30 → y < 30 → f x = f y → x = y
theorem entries_findK (F : Keyed d f) {es : List MapEntry} {ks : List Nat} (h : es.map (fun e => (e.key, e.val)) = ks.map (fun n => (f n, g n))) (hk30 : ∀ x ∈ ks, x < 30) {n : Nat} (hn30 : n < 30) :
    (n ∉ ks ∧ Instr.findNow d (f n) es 0 = some none) ∨ ∃ j, ks[j]? = some n ∧ Instr.findNow d (f n) es 0 = some (some (j, g n)) := by
  have hk : ∀ (j : Nat) (e : MapEntry), es[j]? = some e → ∃ m, ks[j]? = some m ∧ e.key = f m ∧ e.val = g m := fun j e he => by
    have h1 : (es.map (fun e => (e.key, e.val)))[j]? = some (e.key, e.val) := by rw [List.getElem?_map, he]; rfl
    rw [h, List.getElem?_map] at h1
    cases hj : ks[j]? with
    | none => rw [hj] at h1; cases h1
    | some m =>
      rw [hj] at h1
      injection h1 with h1
      injection h1 with h2 h3
      exact ⟨m, rfl, h2.symm, h3.symm⟩
  have keys : ∀ x ∈ es, IsKey d x.key := fun x hx => by
    obtain ⟨j, hj⟩ := List.getElem?_of_mem hx
    obtain ⟨m, _, e, _⟩ := hk j x hj
    rw [e]; exact F.key m
  rcases findNow_spec (d := d) (k := f n) (F.key n) es 0 keys with ⟨h1, h2⟩ | ⟨j, e, h1, h2, h3⟩
  · refine .inl ⟨fun hn => ?_, h1⟩
    obtain ⟨j, hj⟩ := List.getElem?_of_mem hn
    have hl : es.length = ks.length := by have := congrArg List.length h; simpa using this
    have hjl : j < es.length := by
      rcases Nat.lt_or_ge j ks.length with h | h
      · omega
      · rw [List.getElem?_eq_none h] at hj; cases hj
    obtain ⟨m, e1, e2, _⟩ := hk j _ (List.getElem?_eq_getElem hjl)
    rw [hj] at e1
    injection e1 with e1
    subst e1
    exact h2 _ (List.getElem_mem hjl) e2
  · obtain ⟨m, e1, e2, e3⟩ := hk j e h2
    rw [h3] at e2
    have := F.inj n m hn30 (hk30 m (List.mem_of_getElem? e1)) e2
    subst this
    rw [Nat.zero_add, e3] at h1
    exact .inr ⟨j, e1, h1⟩
theorem KMap.lookup (h : KMap f g w b L) (F : Keyed d f) (ht : P.underlying t = some (.map kt et)) (hkt : P.underlying kt = some d) {z : Value} (hz : (zeroValue et).run P w = .ok z w) {n : Nat} (hn : n < 30) :
    (Instr.lookup t (.map (some b)) (f n) true).run P w = .ok (if n ∈ L then .tuple #[g n, .bool true] else .tuple #[z, .bool false]) w := by
  obtain ⟨es, clock, ks, hb, h1, h2, h3, h4⟩ := h
  rcases entries_findK F h1 (fun x hx => h4 x (h2.mem_iff.1 hx)) hn with ⟨hn, hf⟩ | ⟨j, hj, hf⟩
  · rw [if_neg (fun hm => hn (h2.mem_iff.2 hm))]
    simp [Instr.lookup, run_underlying ht, MapKept.run_getObj_map hb, MapKept.run_checkKey hkt (F.key n), MapKept.run_findKey hkt hf, hz, Result.andThen]
  · rw [if_pos (h2.mem_iff.1 (List.mem_of_getElem? hj))]
    simp [Instr.lookup, run_underlying ht, MapKept.run_getObj_map hb, MapKept.run_checkKey hkt (F.key n), MapKept.run_findKey hkt hf, Result.andThen]
theorem KMap.lookup1 (h : KMap f g w b L) (F : Keyed d f) (ht : P.underlying t = some (.map kt et)) (hkt : P.underlying kt = some d) {z : Value} (hz : (zeroValue et).run P w = .ok z w) {n : Nat} (hn : n < 30) :
    (Instr.lookup t (.map (some b)) (f n) false).run P w = .ok (if n ∈ L then g n else z) w := by
  obtain ⟨es, clock, ks, hb, h1, h2, h3, h4⟩ := h
  rcases entries_findK F h1 (fun x hx => h4 x (h2.mem_iff.1 hx)) hn with ⟨hn, hf⟩ | ⟨j, hj, hf⟩
  · rw [if_neg (fun hm => hn (h2.mem_iff.2 hm))]
    simp [Instr.lookup, run_underlying ht, MapKept.run_getObj_map hb, MapKept.run_checkKey hkt (F.key n), MapKept.run_findKey hkt hf, hz, Result.andThen]
  · rw [if_pos (h2.mem_iff.1 (List.mem_of_getElem? hj))]
    simp [Instr.lookup, run_underlying ht, MapKept.run_getObj_map hb, MapKept.run_checkKey hkt (F.key n), MapKept.run_findKey hkt hf, Result.andThen]
theorem KMap.update (h : KMap f g w b L) (F : Keyed d f) (ht : P.underlying t = some (.map kt et)) (hkt : P.underlying kt = some d) {n : Nat} (hn : n ∉ L) (hn30 : n < 30) :
    ∃ w', (Instr.mapUpdate t (.map (some b)) (f n) (g n)).run P w = .ok () w' ∧ KMap f g w' b (n :: L) ∧ Chg (fun x => x = b) w w' := by
  obtain ⟨es, clock, ks, hb, h1, h2, h3, h4⟩ := h
  rcases entries_findK F h1 (fun x hx => h4 x (h2.mem_iff.1 hx)) hn30 with ⟨hn', hf⟩ | ⟨j, hj, hf⟩
  · refine ⟨_, by simp [Instr.mapUpdate, run_underlying ht, MapKept.run_getObj_map hb, MapKept.run_checkKey hkt (F.key n), MapKept.run_findKey hkt hf, MapKept.run_setObj_map _ hb, Result.andThen]; rfl, ⟨es.push { key := f n, val := g n, born := clock }, clock + 1, ks ++ [n], ?_, ?_, ?_, ?_, ?_⟩, chg_map w b _⟩
    · exact (heap_set hb).1
    · rw [Array.toList_push, List.map_append, h1, List.map_append]; rfl
    · exact (List.perm_append_comm).trans (h2.cons n)
    · exact List.nodup_cons.2 ⟨hn, h3⟩
    · intro x hx
      rcases List.mem_cons.1 hx with rfl | hx
      · exact hn30
      · exact h4 x hx
  · exact absurd (h2.mem_iff.1 (List.mem_of_getElem? hj)) hn
theorem KMap.delete (h : KMap f g w b L) (F : Keyed d f) (ht : P.underlying t = some (.map kt et)) (hkt : P.underlying kt = some d) {n : Nat} (hn30 : n < 30) (ty kt' : TypeId) :
    ∃ w', (Builtin.delete_ #[t, kt'] ty #[.map (some b), f n]).run P w = .ok (.tuple #[]) w' ∧ KMap f g w' b (L.erase n) ∧ Chg (fun x => x = b) w w' := by
  obtain ⟨es, clock, ks, hb, h1, h2, h3, h4⟩ := h
  rcases entries_findK F h1 (fun x hx => h4 x (h2.mem_iff.1 hx)) hn30 with ⟨hn', hf⟩ | ⟨j, hj, hf⟩
  · refine ⟨_, by simp [Builtin.delete_, run_underlying ht, MapKept.run_getObj_map hb, MapKept.run_checkKey hkt (F.key n), MapKept.run_findKey hkt hf, MapKept.run_setObj_map _ hb, Result.andThen], ⟨es, clock, ks, (heap_set hb).1, h1, ?_, h3.erase n, fun x hx => h4 x (List.mem_of_mem_erase hx)⟩, chg_map w b _⟩
    rw [List.erase_of_not_mem (fun hm => hn' (h2.mem_iff.2 hm))]
    exact h2
  · have hl : es.size = ks.length := by have := congrArg List.length h1; simpa using this
    have hjl : j < ks.length := by
      rcases Nat.lt_or_ge j ks.length with h | h
      · exact h
      · rw [List.getElem?_eq_none h] at hj; cases hj
    have nk : ks.Nodup := h2.nodup_iff.2 h3
    refine ⟨_, by simp [Builtin.delete_, run_underlying ht, MapKept.run_getObj_map hb, MapKept.run_checkKey hkt (F.key n), MapKept.run_findKey hkt hf, MapKept.run_setObj_map _ hb, Result.andThen]; rfl, ⟨es.eraseIdxIfInBounds j, clock, ks.eraseIdx j, ?_, ?_, ?_, h3.erase n, fun x hx => h4 x (List.mem_of_mem_erase hx)⟩, chg_map w b _⟩
    · exact (heap_set hb).1
    · have e : (es.eraseIdxIfInBounds j).toList = es.toList.eraseIdx j := by
        unfold Array.eraseIdxIfInBounds
        rw [dif_pos (by omega)]
        simp
      rw [e, ← eraseIdx_of_map, h1, eraseIdx_of_map]
    · rw [eraseIdx_nodupN ks j n nk hj]
      exact h2.erase n
theorem KMap.len (h : KMap f g w b L) (ht : P.underlying t = some (.map kt et)) (ty : TypeId) : (Builtin.len_ #[t] ty #[.map (some b)]).run P w = .ok (.int .i64 L.length) w := by
  obtain ⟨es, clock, ks, hb, h1, h2, h3, h4⟩ := h
  have hl : es.size = ks.length := by have := congrArg List.length h1; simpa using this
  have e : es.size = L.length := by rw [hl]; exact h2.length_eq
  simp [Builtin.len_, run_underlying ht, MapKept.run_getObj_map hb, Result.andThen, e]
  rfl
end Go.Proofs.Ytolpjgpimholcaa.Mem

/- All items of a table, and maps keyed by items: what chapter 10's AssocFinds counts. No program in sight, but for blocks. -/
namespace Go.Proofs.Ytolpjgpimholcaa.Assoc
open Go Go.RowKit Go.Proofs.Ytolpjgpimholcaa.Mem Go.Proofs.Ytolpjgpimholcaa.CodecPure Go.Proofs.Ytolpjgpimholcaa.ArenaPure Go.Proofs.Ytolpjgpimholcaa.Codec Go.Proofs.Ytolpjgpimholcaa.Arena Go.Proofs.Ytolpjgpimholcaa.Item Go.Proofs.Ytolpjgpimholcaa.Fnv
set_option linter.unusedVariables false
set_option maxRecDepth 100000
def cat (L : Nat → List Nat) : Nat → List Nat
  | 0 => []
  | n + 1 => cat L n ++ L n
variable {L M : Nat → List Nat} {n b x : Nat}
theorem cat_len (L : Nat → List Nat) : ∀ n, (cat L n).length = total L n
  | 0 => rfl
  | n + 1 => by rw [cat, List.length_append, cat_len L n]; rfl
theorem cat_mem (L : Nat → List Nat) (x : Nat) : ∀ n, x ∈ cat L n ↔ ∃ b, b < n ∧ x ∈ L b
  | 0 => by simp [cat]
  | n + 1 => by
    rw [cat, List.mem_append, cat_mem L x n]
    constructor
    · rintro (⟨b, hb, hx⟩ | hx)
      · exact ⟨b, by omega, hx⟩
      · exact ⟨n, by omega, hx⟩
    · rintro ⟨b, hb, hx⟩
      rcases Nat.lt_or_ge b n with h | h
      · exact .inl ⟨b, h, hx⟩
      · have : b = n := by omega
        subst this
        exact .inr hx
theorem cat_congr : ∀ n, (∀ b, b < n → L b = M b) → cat L n = cat M n
  | 0, _ => rfl
  | n + 1, h => by rw [cat, cat, cat_congr n (fun b hb => h b (by omega)), h n (by omega)]
theorem cat_perm : ∀ n, (∀ b, b < n → (L b).Perm (M b)) → (cat L n).Perm (cat M n)
  | 0, _ => .refl _
  | n + 1, h => (cat_perm n (fun b hb => h b (by omega))).append (h n (by omega))
theorem cat_cons (L : Nat → List Nat) (b x : Nat) : ∀ n, b < n → (cat (updL L b (x :: L b)) n).Perm (x :: cat L n)
  | 0, h => by omega
  | n + 1, h => by
    rw [cat, cat]
    by_cases e : b = n
    · subst e
      rw [updL_at, cat_congr (L := updL L b (x :: L b)) (M := L) b (fun j hj => updL_ne L _ (by omega))]
      exact List.perm_middle
    · rw [updL_ne L _ (show n ≠ b by omega)]
      exact (cat_cons L b x n (by omega)).append_right _
theorem cat_erase (L : Nat → List Nat) (hb : b < n) (hx : x ∈ L b) : ((cat L n).erase x).Perm (cat (updL L b ((L b).erase x)) n) := by
  have h1 := cat_cons (updL L b ((L b).erase x)) b x n hb
  rw [updL_at] at h1
  have h2 : (cat L n).Perm (cat (updL (updL L b ((L b).erase x)) b (x :: (L b).erase x)) n) := cat_perm n fun j hj => by
    by_cases e : j = b
    · subst e
      rw [updL_at]
      exact List.perm_cons_erase hx
    · rw [updL_ne _ _ e, updL_ne _ _ e]
  have h3 := (h2.trans h1).erase x
  rwa [List.erase_cons_head] at h3
theorem cat_nodup (h : Nat → Nat) : ∀ n, (∀ b, b < n → (L b).Nodup) → (∀ b, b < n → ∀ j ∈ L b, h j = b) → (cat L n).Nodup
  | 0, _, _ => List.nodup_nil
  | n + 1, h1, h2 => by
    rw [cat]
    refine List.nodup_append.2 ⟨cat_nodup h n (fun b hb => h1 b (by omega)) (fun b hb => h2 b (by omega)), h1 n (by omega), ?_⟩
    intro x hx y hy e
    subst e
    obtain ⟨b, hb, hxb⟩ := (cat_mem L x n).1 hx
    have := h2 b (by omega) x hxb
    have := h2 n (by omega) x hy
    omega
section
variable {B : Nat} {w0 w w' : World} {a : Ar} {t : Th} {n : Nat} {L : Nat → List Nat}
theorem TE.cat_in (k : TE B w0 w a t n L) (x : Nat) : x ∈ cat L n ↔ x ∈ L (hb n x) := by
  rw [cat_mem]
  constructor
  · rintro ⟨b, hb', hx⟩
    have := (k.mem b hb' x hx).2
    rw [this]
    exact hx
  · intro hx
    exact ⟨_, hb_lt k.pow x, hx⟩
theorem TE.cat_nodup (k : TE B w0 w a t n L) : (cat L n).Nodup := Assoc.cat_nodup (hb n) n k.nodup fun b hb' j hj => (k.mem b hb' j hj).2
theorem TE.cat_lt (k : TE B w0 w a t n L) : ∀ x ∈ cat L n, x < 30 := fun x hx => by
  obtain ⟨b, hb', h⟩ := (cat_mem L x n).1 hx
  exact (k.mem b hb' x h).1
/-- the blocks of which a table is made -/
def T3 (a : Ar) (t : Th) (x : Nat) : Prop := x = a.g ∨ x = a.ps ∨ T2 a t x
theorem t3_lt (k : TE B w0 w a t n L) : ∀ x, T3 a t x → x < w.heap.size := by
  intro x hx
  rcases hx with rfl | rfl | hx
  · obtain ⟨s, nx, H, h1, h2⟩ := k.ex
    exact blk_lt h1.lies.head
  · obtain ⟨s, nx, H, h1, h2⟩ := k.ex
    exact World.block_lt_of_cell? w _ (h1.lies.row 0 h1.lies.ok.low)
  · exact t2_lt k x hx
theorem TE.part {S : Nat → Prop} (k : TE B w0 w a t n L) (hc : Chg S w w') (hs : ∀ x, T3 a t x → ¬ S x) (hB : ∀ x, S x → B ≤ x) : TE B w0 w' a t n L := by
  obtain ⟨s, nx, H, h1, h2⟩ := k.ex
  have g := hs _ (.inl rfl)
  have p := hs _ (.inr (.inl rfl))
  have pb : ∀ b ∈ a.pb, ¬ S b := fun b hb' => hs b (.inr (.inr (.inl hb')))
  exact ⟨⟨s, nx, H, ⟨h1.lies.chg hc g p pb, h1.chg.trans (hc.mono hB'), h1.low⟩, ⟨h2.lies.chg hc g p pb, h2.ns, h2.tm.chg hc (hs _ (.inr (.inr (.inr (.inl rfl))))) (hs _ (.inr (.inr (.inr (.inr rfl))))), h2.ti⟩⟩, k.low⟩
where hB' : ∀ (b : Nat) (x : b < w.heap.size), S b → B ≤ b := fun b _ h => hB b h
end
def kf (n : Nat) : Value := .string (keyS n)
def kg (n : Nat) : Value := .int .i64 (64 * (n : Int))
def kt (_ : Nat) : Value := .bool true
theorem kf_keyed : Keyed .string kf := ⟨fun _ => trivial, fun x y hx hy h => keyS_inj hx hy (by injection h)⟩
theorem kg_keyed : Keyed (.int .i64) kg := ⟨fun _ => rfl, fun x y hx hy h => by
  have : (64 * (x : Int)) = 64 * (y : Int) := by injection h
  omega⟩
end Go.Proofs.Ytolpjgpimholcaa.Assoc

/- The walk of chapter 10's AssocFinds. -/
namespace Go.Proofs.Ytolpjgpimholcaa.Assoc
open Go Go.RowKit Go.Proofs.Ytolpjgpimholcaa.Mem Go.Proofs.Ytolpjgpimholcaa.CodecPure Go.Proofs.Ytolpjgpimholcaa.ArenaPure Go.Proofs.Ytolpjgpimholcaa.Codec Go.Proofs.Ytolpjgpimholcaa.Arena Go.Proofs.Ytolpjgpimholcaa.Item Go.Proofs.Ytolpjgpimholcaa.Fnv
set_option linter.unusedVariables false
set_option maxRecDepth 100000
theorem zeroB (w : World) : (zeroValue 4).run Try.prog w = .ok (.bool false) w := by kernel_rfl
theorem zeroI (w : World) : (zeroValue 3).run Try.prog w = .ok (.int .i64 0) w := by kernel_rfl
variable {w w' : World} {m : Nat} {L : List Nat} {x : Nat}
theorem in_yes (h : KMap kf kg w m L) (hx : x < 30) (hm : x ∈ L) : (Instr.lookup 59 (.map (some m)) (.string (keyS x)) true).run Try.prog w = .ok (.tuple #[.int .i64 (64 * (x : Int)), .bool true]) w := by
  have := h.lookup kf_keyed Try.underlying59 Try.underlying9 (zeroI w) hx
  rw [if_pos hm] at this
  exact this
theorem in_no (h : KMap kf kg w m L) (hx : x < 30) (hm : x ∉ L) : (Instr.lookup 59 (.map (some m)) (.string (keyS x)) true).run Try.prog w = .ok (.tuple #[.int .i64 0, .bool false]) w := by
  have := h.lookup kf_keyed Try.underlying59 Try.underlying9 (zeroI w) hx
  rw [if_neg hm] at this
  exact this
theorem in_put (h : KMap kf kg w m L) (hx : x < 30) (hm : x ∉ L) : ∃ w', (Instr.mapUpdate 59 (.map (some m)) (.string (keyS x)) (.int .i64 (64 * (x : Int)))).run Try.prog w = .ok () w' ∧ KMap kf kg w' m (x :: L) ∧ Chg (fun y => y = m) w w' :=
  h.update kf_keyed Try.underlying59 Try.underlying9 hm hx
theorem in_del (h : KMap kf kg w m L) (hx : x < 30) : ∃ w', (Builtin.delete_ #[59, 9] 0 #[.map (some m), .string (keyS x)]).run Try.prog w = .ok (.tuple #[]) w' ∧ KMap kf kg w' m (L.erase x) ∧ Chg (fun y => y = m) w w' :=
  h.delete kf_keyed Try.underlying59 Try.underlying9 hx _ _
theorem in_len (h : KMap kf kg w m L) : (Builtin.len_ #[59] 3 #[.map (some m)]).run Try.prog w = .ok (.int .i64 L.length) w := h.len Try.underlying59 _
theorem seen_no (h : KMap kg kt w m L) (hx : x < 30) (hm : x ∉ L) : (Instr.lookup 68 (.map (some m)) (.int .i64 (64 * (x : Int))) false).run Try.prog w = .ok (.bool false) w := by
  have := h.lookup1 kg_keyed Try.underlying68 Try.underlying3 (zeroB w) hx
  rw [if_neg hm] at this
  exact this
theorem seen_put (h : KMap kg kt w m L) (hx : x < 30) (hm : x ∉ L) : ∃ w', (Instr.mapUpdate 68 (.map (some m)) (.int .i64 (64 * (x : Int))) (.bool true)).run Try.prog w = .ok () w' ∧ KMap kg kt w' m (x :: L) ∧ Chg (fun y => y = m) w w' :=
  h.update kg_keyed Try.underlying68 Try.underlying3 hm hx
theorem seen_len (h : KMap kg kt w m L) : (Builtin.len_ #[68] 3 #[.map (some m)]).run Try.prog w = .ok (.int .i64 L.length) w := h.len Try.underlying68 _
theorem cat_le {L : Nat → List Nat} {n b : Nat} (h : b ≤ n) : ∃ r, cat L n = cat L b ++ r := by
  obtain ⟨d, rfl⟩ := Nat.exists_eq_add_of_le h
  clear h
  induction d with
  | zero => exact ⟨[], by simp⟩
  | succ d ih =>
    obtain ⟨r, hr⟩ := ih
    exact ⟨r ++ L (b + d), by show cat L (b + d) ++ L (b + d) = _; rw [hr, List.append_assoc]⟩
theorem cat_nodup_le {L : Nat → List Nat} {n b : Nat} (h : (cat L n).Nodup) (hb : b ≤ n) : (cat L b).Nodup := by
  obtain ⟨r, hr⟩ := cat_le (L := L) hb
  rw [hr] at h
  exact (List.nodup_append.1 h).1
theorem getD_in2 (l : List Nat) {j : Nat} (h : j < l.length) : l.getD j 0 ∈ l := by
  rw [List.getD_eq_getElem?_getD, List.getElem?_eq_getElem h]
  exact List.getElem_mem h
set_option maxHeartbeats 1000000 in
theorem finds_walk (n0 : Int) (A : Option Addr) (c : Nat) (l : List (List Int)) (w : World) (wf0 : (Lit.int .i64 n0).wf = true) (hl : SRow w [.i64, .i64, .i64] A c l) :
    Calls Try.prog 7 #[(.int .i64 n0), .slice A l.length c] w fun e w' => e = .returned (.bool true) ∧ Below w.heap.size w w' := by
  have hlm : l.length ≤ 9223372036854775807 := Nat.le_trans hl.cap hl.most
  replace hl := Lib.hid hl
  obtain ⟨ln, hn⟩ : ∃ n, l.length = n := ⟨_, rfl⟩
  rw [hn] at hlm ⊢
  replace hn := Lib.hid hn
  obtain ⟨x, hx, x1, x2⟩ := small n0 7 (by decide)
  replace x1 : (IntKind.u64.wrap n0).tmod 7 = x := x1
  obtain ⟨p, sh, hp⟩ := pow_sh x (by omega)
  have pr := hp.range
  obtain ⟨pr1, pr2⟩ := pr
  replace hp := Lib.hid hp
  have hmm := @run_makeMap Try.prog
  clear x2 wf0
  go_enter Try.func7, Try.ntmps7
  go_wp2_with fail
  refine (works10_calls w).mono ?_
  rintro e wa ⟨rfl, hc⟩
  have CW := Lib.hid hc
  clear hc
  go_wp2_with fail
  refine (laid_calls wa).mono ?_
  rintro e w1 ⟨a, r, rfl, T⟩
  replace T := Lib.hid T
  clear x1
  go_wp2_with fail
  refine (TE.start T.out hp.out).mono ?_
  rintro e w2 ⟨t, rfl, K0, -⟩
  have NM0 := t3_lt K0
  have M0 := KMap.made kf kg w2
  have K1 := K0.fresh (Chg.alloc (fun _ => False) w2 (.map #[] 0))
  have BM := K0.chg.size
  clear T sh hx K0
  generalize hm1 : w2.heap.size = mm at NM0 M0 BM
  replace K1 := Lib.hid K1
  replace M0 := Lib.hid M0
  replace BM : Hid (wa.heap.size ≤ mm) := BM
  have NM : Hid (∀ g, T3 a t g → ¬ g = mm) := fun g hg e => by have := NM0 g hg; omega
  have NM2 : Hid (∀ g, T2 a t g → ¬ g = mm) := fun g hg => NM.out g (.inr (.inr hg))
  clear NM0
  go_wp2_with fail
  clear hm1
  generalize w2.alloc (.map #[] 0) = w3 at K1 M0
  go_loopg [11] 80 (fun g i wr => ∃ (k : Nat) (L : Nat → List Nat), i = .int .i64 k ∧ g = 80 - k ∧ k ≤ 80 ∧ k ≤ ln ∧ Hid (TE wa.heap.size wa wr a t p L) ∧ Hid (KMap kf kg wr mm (cat L p)))
  case atStart => exact ⟨0, _, rfl, rfl, by omega, by omega, K1.out, by
    have e : cat (fun _ => []) p = [] := List.eq_nil_iff_forall_not_mem.2 fun x hx => by
      obtain ⟨b, _, h⟩ := (cat_mem _ x p).1 hx
      exact absurd h (by simp)
    rw [e]; exact M0.out⟩
  case round =>
    clear K1 M0
    obtain ⟨k, L, rfl, hg, hk, hkn, K, M⟩ := hrel
    replace hg := Lib.hid hg
    by_cases hlt : k < ln ∧ k < 80
    · clear hmm
      obtain ⟨h1, h2⟩ := hlt
      have h1' : (k : Int) < ln := by omega
      have h2' : (k : Int) < 80 := by omega
      have CC : Chg (fun b => w.heap.size ≤ b) w wr := (CW.out.mono fun _ _ h => h.elim).trans (K.out.chg.mono fun b _ hb => Nat.le_trans CW.out.size hb)
      have SR := hl.out.chg CC (Nat.le_refl _)
      obtain ⟨ad, rfl, d0, d1⟩ := SR.fields k (by rw [hn.out]; exact h1) (by decide)
      have f0 := d0 .i64 rfl
      have f1 := d1 0 .i64 rfl
      simp only [List.length_cons, List.length_nil, Nat.reduceAdd, Nat.zero_add] at f0 f1
      clear d0 d1 SR
      generalize (l.getD k []).getD 0 0 = kind at f0
      obtain ⟨x1, hx1⟩ : ∃ x1, (l.getD k []).getD 1 0 = x1 := ⟨_, rfl⟩
      rw [hx1] at f1
      replace hx1 := Lib.hid hx1
      obtain ⟨kk, hkk, q1, -⟩ := small x1 30 (by decide)
      have PC : Hid (∀ W, Calls Try.prog 31 #[(.int .i64 x1)] W fun e w' => e = .returned ((.int .i64 (64 * (kk : Int)))) ∧ w' = W) := fun W => place10_calls x1 W kk hkk q1
      have SC := Lib.hid (fun W => keys_calls x1 W kk hkk q1)
      have AB : Hid (ad.block < mm ∧ ¬ wa.heap.size ≤ ad.block ∨ True) := .inr trivial
      clear q1 CC
      by_cases e1 : kind = 1
      · have t1 : (kind == 1) = true := by rw [e1]; rfl
        clear e1 PC
        go_wp2_with fail
        refine (SC.out _).mono ?_
        rintro e w3 ⟨rfl, hc⟩
        have K3 := Lib.hid (K.out.fresh hc)
        have M3 := Lib.hid (M.out.chg hc id)
        have g0 := hc.cell f0 id
        have DE := K3.out.delete hkk
        have CI := K3.out.cat_in kk
        by_cases hm : kk ∈ L (hb p kk)
        · have CE := Lib.hid (cat_erase (L := L) (n := p) (hb_lt hp.out kk) hm)
          unfold delB delV at DE
          rw [if_pos hm, if_pos hm] at DE
          rw [← CI] at hm
          replace DE := Lib.hid DE
          replace hm := Lib.hid hm
          clear hc K M SC CI f0 f1
          go_wp2_with fail
          refine DE.out.mono ?_
          rintro e w4 ⟨rfl, hq, hc⟩
          have K4 := Lib.hid hq
          have M4 := M3.out.chg hc (fun h => NM2.out _ h rfl)
          have lk := in_yes M4 hkk hm.out
          obtain ⟨w5, r5, M5, c5⟩ := in_del M4 hkk
          have K5 := Lib.hid (K4.out.part c5 NM.out (fun _ e => e ▸ BM.out))
          replace M5 := Lib.hid (M5.perm CE.out)
          clear hq hc M4 M3 K3 K4 c5 DE CE hm
          go_wp2_with fail
          clear lk r5 g0
          go_roundg (80 - (k + 1))
          case measure => have := hg.out; omega
          case rel => exact ⟨k + 1, _, rfl, rfl, by omega, by omega, K5.out, M5.out⟩
        · unfold delB delV at DE
          rw [if_neg hm, if_neg hm] at DE
          rw [← CI] at hm
          replace DE := Lib.hid DE
          replace hm := Lib.hid hm
          clear hc K M SC CI f0 f1
          go_wp2_with fail
          refine DE.out.mono ?_
          rintro e w4 ⟨rfl, hq, hc⟩
          have K4 := Lib.hid hq
          have M4 := M3.out.chg hc (fun h => NM2.out _ h rfl)
          have lk := in_no M4 hkk hm.out
          obtain ⟨w5, r5, M5, c5⟩ := in_del M4 hkk
          have K5 := Lib.hid (K4.out.part c5 NM.out (fun _ e => e ▸ BM.out))
          rw [List.erase_of_not_mem hm.out] at M5
          replace M5 := Lib.hid M5
          clear hq hc M4 M3 K3 K4 c5 DE hm
          go_wp2_with fail
          clear lk r5 g0
          go_roundg (80 - (k + 1))
          case measure => have := hg.out; omega
          case rel => exact ⟨k + 1, _, rfl, rfl, by omega, by omega, K5.out, M5.out⟩
      · have t1 : (kind == 1) = false := by rw [beq_eq_false_iff_ne]; exact e1
        clear e1
        go_wp2_with fail
        refine (SC.out _).mono ?_
        rintro e w3 ⟨rfl, hc⟩
        have K3 := Lib.hid (K.out.fresh hc)
        have M3 := Lib.hid (M.out.chg hc id)
        have g0 := hc.cell f0 id
        have g1 := hc.cell f1 id
        clear hc K M SC f0 f1
        go_wp2_with fail
        refine (PC.out _).mono ?_
        rintro e wq ⟨rfl, rfl⟩
        go_wp2_with fail
        have IE := K3.out.insert hkk
        have CI := K3.out.cat_in kk
        by_cases hm : kk ∈ L (hb p kk)
        · unfold insB insA at IE
          rw [if_pos hm, if_pos hm] at IE
          refine IE.mono ?_
          rintro e w4 ⟨rfl, hq, hc⟩
          have K5 := Lib.hid hq
          have M5 := Lib.hid (M3.out.chg hc (fun h => NM2.out _ h rfl))
          clear hq hc K3 M3 CI hm IE g0 g1 PC
          go_wp2_with fail
          go_roundg (80 - (k + 1))
          case measure => have := hg.out; omega
          case rel => exact ⟨k + 1, _, rfl, rfl, by omega, by omega, K5.out, M5.out⟩
        · unfold insB insA at IE
          rw [if_neg hm, if_neg hm] at IE
          have CE := Lib.hid (cat_cons L (hb p kk) kk p (hb_lt hp.out kk))
          rw [← CI] at hm
          refine IE.mono ?_
          rintro e w4 ⟨rfl, hq, hc⟩
          have K4 := Lib.hid hq
          have CC : Chg (fun b => w.heap.size ≤ b) w w4 := (CW.out.mono fun _ _ h => h.elim).trans (hq.chg.mono fun b _ hb => Nat.le_trans CW.out.size hb)
          have SR := hl.out.chg CC (Nat.le_refl _)
          obtain ⟨ad', e', -, d1⟩ := SR.fields k (by rw [hn.out]; exact h1) (by decide)
          cases e'
          have f1 := d1 0 .i64 rfl
          simp only [List.length_cons, List.length_nil, Nat.reduceAdd, Nat.zero_add] at f1
          rw [hx1.out] at f1
          have M4 := M3.out.chg hc (fun h => NM2.out _ h rfl)
          obtain ⟨w5, r5, M5, c5⟩ := in_put M4 hkk hm
          have K5 := Lib.hid (K4.out.part c5 NM.out (fun _ e => e ▸ BM.out))
          replace M5 := Lib.hid (M5.perm CE.out.symm)
          clear hq hc K3 M3 CI hm IE g0 g1 CE d1 SR CC M4 c5 K4
          go_wp2_with fail
          refine (PC.out _).mono ?_
          rintro e wq ⟨rfl, rfl⟩
          go_wp2_with fail
          clear r5 f1
          go_roundg (80 - (k + 1))
          case measure => have := hg.out; omega
          case rel => exact ⟨k + 1, _, rfl, rfl, by omega, by omega, K5.out, M5.out⟩
    · have hend : ((ln : Int) ≤ k) ∨ ((k : Int) < ln ∧ ¬ (k : Int) < 80) := by omega
      have LT := Lib.hid (K.out.cat_lt)
      have ND := Lib.hid (K.out.cat_nodup)
      have CI := Lib.hid (fun (x : Nat) => K.out.cat_in x)
      have TL := cat_len L p
      obtain ⟨q, hq⟩ : ∃ q, (cat L p).length = q := ⟨_, rfl⟩
      rw [hq] at TL
      have SZ := Lib.hid (fun W (k : TE wa.heap.size wa W a t p L) => k.size)
      rw [← TL] at SZ
      have FI := Lib.hid (fun W (k : TE wa.heap.size wa W a t p L) x (hx : x < 30) => k.find hx)
      replace hq := Lib.hid hq
      clear hg hlt hl hk hkn TL
      rcases hend with he | ⟨he, he2⟩ <;>
      (go_wp2_with fail
       go_loopg [17] 30 (fun g i wr => ∃ b : Nat, i = .int .i64 b ∧ g = 30 - b ∧ b ≤ 30 ∧ Hid (TE wa.heap.size wa wr a t p L) ∧ Hid (KMap kf kg wr mm (cat L p)))
       case atStart => exact ⟨0, rfl, rfl, by omega, K.out, M.out⟩
       case round =>
         clear K M
         obtain ⟨b, rfl, hg, hbb, K, M⟩ := hrel
         replace hg := Lib.hid hg
         by_cases h1 : b < 30
         · have h1' : (b : Int) < 30 := by omega
           have q1 : (IntKind.u64.wrap (b : Int)).tmod 30 = b := by
             rw [IntWalk.u64_in _ (by omega)]
             rw [Int.tmod_eq_emod_of_nonneg (by omega)]; omega
           have SC := Lib.hid (fun W => keys_calls (b : Int) W b h1 q1)
           clear q1 hmm
           go_wp2_with fail
           refine (SC.out _).mono ?_
           rintro e w3 ⟨rfl, hc⟩
           have K3 := Lib.hid (K.out.fresh hc)
           have M3 := Lib.hid (M.out.chg hc id)
           have FB := FI.out _ K3.out b h1
           have CB := CI.out b
           unfold finV at FB
           clear hc K M
           by_cases hm : b ∈ L (hb p b)
           · rw [if_pos hm] at FB
             rw [← CB] at hm
             replace FB := Lib.hid FB
             replace hm := Lib.hid hm
             clear CB
             go_wp2_with fail
             refine FB.out.mono ?_
             rintro e w4 ⟨rfl, hc⟩
             have K4 := Lib.hid (K3.out.fresh hc)
             have M4 := Lib.hid (M3.out.chg hc id)
             clear hc K3 M3 FB
             go_wp2_with fail
             refine (SC.out _).mono ?_
             rintro e w5 ⟨rfl, hc⟩
             have K5 := Lib.hid (K4.out.fresh hc)
             have M5 := Lib.hid (M4.out.chg hc id)
             have lk := in_yes M5.out h1 hm.out
             clear hc K4 M4 SC
             go_wp2_with fail
             go_roundg (30 - (b + 1))
             case measure => have := hg.out; omega
             case rel => exact ⟨b + 1, rfl, rfl, by omega, K5.out, M5.out⟩
           · rw [if_neg hm] at FB
             rw [← CB] at hm
             replace FB := Lib.hid FB
             replace hm := Lib.hid hm
             clear CB
             go_wp2_with fail
             refine FB.out.mono ?_
             rintro e w4 ⟨rfl, hc⟩
             have K4 := Lib.hid (K3.out.fresh hc)
             have M4 := Lib.hid (M3.out.chg hc id)
             clear hc K3 M3 FB
             go_wp2_with fail
             refine (SC.out _).mono ?_
             rintro e w5 ⟨rfl, hc⟩
             have K5 := Lib.hid (K4.out.fresh hc)
             have M5 := Lib.hid (M4.out.chg hc id)
             have lk := in_no M5.out h1 hm.out
             clear hc K4 M4 SC
             go_wp2_with fail
             go_roundg (30 - (b + 1))
             case measure => have := hg.out; omega
             case rel => exact ⟨b + 1, rfl, rfl, by omega, K5.out, M5.out⟩
         · have h1' : ¬ (b : Int) < 30 := by omega
           have NS0 := t3_lt K.out
           have mlt := M.out.lt
           have S0 := KMap.made kg kt wr
           have K1 := K.out.fresh (Chg.alloc (fun _ => False) wr (.map #[] 0))
           have M1 := M.out.chg (Chg.alloc (fun _ => False) wr (.map #[] 0)) id
           have BN := K.out.chg.size
           have LE := Lib.hid (fun b (h : b < p) => K.out.len h)
           have IN := Lib.hid (fun b (h : b < p) => K.out.mem b h)
           clear K M hg FI CI
           generalize hm2 : wr.heap.size = m2 at NS0 S0 BN mlt
           have NS : Hid (∀ g, T3 a t g → ¬ g = m2) := fun g hg e => by have := NS0 g hg; omega
           have BN : Hid (wa.heap.size ≤ m2) := BN
           have nem : Hid (¬ mm = m2) := fun e => by omega
           replace K1 := Lib.hid K1
           replace M1 := Lib.hid M1
           replace S0 := Lib.hid S0
           clear NS0 mlt
           go_wp2_with fail
           clear hm2 hmm
           generalize wr.alloc (.map #[] 0) = w3 at K1 M1 S0
           go_loopg [23] p (fun g i wr => ∃ b : Nat, i = .int .i64 b ∧ g = p - b ∧ b ≤ p ∧ Hid (TE wa.heap.size wa wr a t p L) ∧ Hid (KMap kf kg wr mm (cat L p)) ∧ Hid (KMap kg kt wr m2 (cat L b)))
           case atStart => exact ⟨0, rfl, rfl, by omega, K1.out, M1.out, S0.out⟩
           case round =>
             clear K1 M1 S0
             obtain ⟨b, rfl, hg, hbb, K, M, S⟩ := hrel
             replace hg := Lib.hid hg
             by_cases h1 : b < p
             · have h1' : (b : Int) < p := by omega
               have BI := K.out.bucket h1
               have PG := Lib.hid (fun j (hj : j < (L b).length) => pls_getD (L b) hj)
               have TS := Lib.hid (fun j (hj : j < (L b).length) => take_snoc (L b) hj)
               have IM := Lib.hid (fun j (hj : j < (L b).length) => getD_in2 (L b) hj)
               have INb := Lib.hid (IN.out b h1)
               have CS := Lib.hid (show cat L (b + 1) = cat L b ++ L b from rfl)
               have NDb : Hid ((cat L b ++ L b).Nodup) := cat_nodup_le ND.out (b := b + 1) (by omega)
               have m30 := LE.out b h1
               obtain ⟨m, hm⟩ : ∃ m, (L b).length = m := ⟨_, rfl⟩
               have PL : Hid ((pls (L b)).length = m) := by show _ = _; rw [pls_length, hm]
               have TK : Hid ((L b).take m = L b) := by show _ = _; rw [← hm, List.take_length]
               rw [hm] at m30
               replace hm := Lib.hid hm
               replace BI := Lib.hid BI
               go_wp2_with fail
               refine BI.out.mono ?_
               rintro e w5 ⟨A5, c5, rfl, ho, hc⟩
               have K5 := Lib.hid (K.out.fresh hc)
               have M5 := Lib.hid (M.out.chg hc id)
               have S5 := Lib.hid (S.out.chg hc id)
               rw [PL.out] at ho ⊢
               obtain ⟨B5, hB5, hO5⟩ : ∃ B5 : Nat, m2 < B5 ∧ Mem.Own w5 B5 3 .i64 (.slice A5 m c5) (pls (L b)) := ⟨_, S.out.lt, ho⟩
               have O5 := Lib.hid hO5
               replace hB5 := Lib.hid hB5
               clear ho hc BI K M S hO5
               go_wp2_with fail
               go_loopg [26] m (fun g i wr => ∃ j : Nat, i = .int .i64 j ∧ g = m - j ∧ j ≤ m ∧ Hid (TE wa.heap.size wa wr a t p L) ∧ Hid (KMap kf kg wr mm (cat L p)) ∧ Hid (KMap kg kt wr m2 (cat L b ++ (L b).take j)) ∧ Hid (Mem.Own wr B5 3 .i64 (.slice A5 m c5) (pls (L b))))
               case atStart => exact ⟨0, rfl, rfl, by omega, K5.out, M5.out, by rw [List.take_zero, List.append_nil]; exact S5.out, O5.out⟩
               case round =>
                 clear K5 M5 S5 O5
                 obtain ⟨j, rfl, hg2, hj, K6, M6, S6, O6⟩ := hrel
                 replace hg2 := Lib.hid hg2
                 by_cases h2 : j < m
                 · have h2' : (j : Int) < m := by omega
                   obtain ⟨ad, rfl, cj⟩ := O6.out.sl j (by rw [PL.out]; exact h2)
                   have jL : j < (L b).length := by rw [hm.out]; exact h2
                   rw [PG.out j jL] at cj
                   have TSj := TS.out j jL
                   have x30 := (INb.out _ (IM.out j jL)).1
                   have nx : (L b).getD j 0 ∉ cat L b ++ (L b).take j := by
                     have := NDb.out
                     rw [at_split (L b) j jL, ← List.append_assoc] at this
                     exact fun h => (List.nodup_append.1 this).2.2 _ h _ (by simp) rfl
                   generalize (L b).getD j 0 = x at cj TSj x30 nx
                   have ls := seen_no S6.out x30 nx
                   obtain ⟨w7, r7, S7, c7⟩ := seen_put S6.out x30 nx
                   have K7 := Lib.hid (K6.out.part c7 NS.out (fun _ e => e ▸ BN.out))
                   have M7 := Lib.hid (M6.out.chg c7 nem.out)
                   have O7 := Lib.hid (Mem.Own.chg O6.out c7 fun g e h => by have := (World.ownsRow.lt O6.out g e).1; have := hB5.out; omega)
                   have S8 : Hid (KMap kg kt w7 m2 (cat L b ++ (L b).take (j + 1))) := by
                     rw [TSj, ← List.append_assoc]
                     exact S7.perm (List.perm_append_comm (l₁ := [x]))
                   clear K6 M6 S6 O6 S7 c7 TSj nx x30 jL
                   go_wp2_with fail
                   clear ls r7 cj
                   go_roundg (m - (j + 1))
                   case measure => have := hg2.out; omega
                   case rel => exact ⟨j + 1, rfl, rfl, by omega, K7.out, M7.out, S8.out, O7.out⟩
                 · have h2' : ¬ (j : Int) < m := by omega
                   have e : j = m := by omega
                   subst e
                   rw [TK.out, ← CS.out] at S6
                   clear TK PL TS IM PG
                   go_wp2_with fail
                   go_roundg (p - (b + 1))
                   case measure => have := hg.out; omega
                   case rel => exact ⟨b + 1, rfl, rfl, by omega, K6.out, M6.out, S6.out⟩
             · have h1' : ¬ (b : Int) < p := by omega
               have e : b = p := by omega
               subst e
               go_wp2_with fail
               refine (SZ.out _ K.out).mono ?_
               rintro e w5 ⟨rfl, hd⟩
               have l1 := in_len (M.out.chg (hd.chg (fun _ => False)) id)
               have l2 := seen_len (S.out.chg (hd.chg (fun _ => False)) id)
               rw [hq.out] at l1 l2
               have F := Lib.hid (((CW.out.mono (T := fun b => w.heap.size ≤ b) fun _ _ h => h.elim).trans ((K.out.fresh (hd.chg _)).chg.mono fun b _ hb => Nat.le_trans CW.out.size hb)).below (Nat.le_refl _) fun _ h => h)
               clear M S K hd SZ
               go_wp2_with fail
               go_ret
               exact ⟨rfl, F.out⟩)
end Go.Proofs.Ytolpjgpimholcaa.Assoc

