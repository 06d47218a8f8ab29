import Derived.Test.YtolpjgpimholcaaGp
/- What a growing table's acts answer, over its items alone. -/
namespace Go.Proofs.Ytolpjgpimholcaa.Grow
open Go Go.RowKit Go.Proofs.Ytolpjgpimholcaa.Mem Go.Proofs.Ytolpjgpimholcaa.CodecPure Go.Proofs.Ytolpjgpimholcaa.ArenaPure Go.Proofs.Ytolpjgpimholcaa.Codec Go.Proofs.Ytolpjgpimholcaa.Arena Go.Proofs.Ytolpjgpimholcaa.Item Go.Proofs.Ytolpjgpimholcaa.Fnv Go.Proofs.Ytolpjgpimholcaa.Assoc
set_option linter.unusedVariables false
set_option maxRecDepth 100000
variable {B : Nat} {w0 w w' : World} {a : Ar} {t u : Th} {g : Nat} {X : Nat → Prop} {s s' : St} {nx nx' : Nat → Int} {n m k x : Nat} {on : Bool} {H I H' : List Int} {L M L' : Nat → List Nat} {K : List Nat}
/-! ### items of all buckets -/
theorem ti_cat_in (h : TI nx n H L) (x : Nat) : x ∈ cat L n ↔ x ∈ L (hb n x) := by
  rw [cat_mem]
  constructor
  · rintro ⟨b, hb', hx⟩
    have := (h.mem b hb' x hx).2
    rw [this]
    exact hx
  · intro hx
    exact ⟨_, hb_lt h.pow x, hx⟩
theorem ti_cat_nodup (h : TI nx n H L) : (cat L n).Nodup := Assoc.cat_nodup (hb n) n h.nodup fun b hb' j hj => (h.mem b hb' j hj).2
theorem cat_nil (L : Nat → List Nat) : ∀ n, (∀ b, b < n → L b = []) → cat L n = []
  | 0, _ => rfl
  | n + 1, h => by rw [cat, cat_nil L n fun b hb => h b (by omega), h n (by omega)]; rfl
theorem cat_out (L : Nat → List Nat) (b : Nat) : ∀ n, b < n → (cat L n).Perm (L b ++ cat (updL L b []) n)
  | 0, h => by omega
  | n + 1, h => by
    rw [cat, cat]
    by_cases e : b = n
    · subst e
      rw [updL_at, cat_congr (L := updL L b []) (M := L) b (fun j hj => updL_ne L _ (by omega)), List.append_nil]
      exact List.perm_append_comm
    · rw [updL_ne L _ (show n ≠ b by omega), ← List.append_assoc]
      exact (cat_out L b n (by omega)).append_right _
theorem insB_new (h : x ∉ M (hb k x)) : insB M k x = updL M (hb k x) (x :: M (hb k x)) := by unfold insB; rw [if_neg h]
theorem cat_insB (hk : Fnv.Pow k) (h : x ∉ cat M k) : (cat (insB M k x) k).Perm (x :: cat M k) := by
  have h1 : x ∉ M (hb k x) := fun q => h ((cat_mem M x k).2 ⟨_, hb_lt hk x, q⟩)
  rw [insB_new h1]
  exact cat_cons M _ x k (hb_lt hk x)
theorem cat_insAll (hk : Fnv.Pow k) : ∀ (l : List Nat) (M : Nat → List Nat), l.Nodup → (∀ x ∈ l, x ∉ cat M k) → (cat (insAll M k l) k).Perm (l ++ cat M k)
  | [], M, _, _ => .refl _
  | x :: l, M, hn, hm => by
    have c1 := cat_insB hk (hm x (by simp))
    have ih := cat_insAll hk l (insB M k x) (List.nodup_cons.1 hn).2 fun y hy q => by
      rcases List.mem_cons.1 ((c1.mem_iff).1 q) with rfl | q
      · exact (List.nodup_cons.1 hn).1 hy
      · exact hm y (by simp [hy]) q
    exact ih.trans ((c1.append_left l).trans List.perm_middle)
/-! ### a table that may grow -/
/-- a table of the call's own, far from the blocks X: n buckets, m of which have been moved, the items K -/
structure GE (B : Nat) (w0 w : World) (a : Ar) (g : Nat) (X : Nat → Prop) (n m : Nat) (on : Bool) (K : List Nat) : Prop where
  ex : ∃ t s nx H L, (B ≤ t.b ∧ B ≤ t.h) ∧ (∀ x, X x → ¬ T3 a t x) ∧ ((on = false ∧ m = 0 ∧ G1 w a g t s nx n H L ∧ (cat L n).Perm K) ∨
    (on = true ∧ ∃ u I M, G2 w a g t u s nx n m H L I M ∧ (B ≤ u.b ∧ B ≤ u.h) ∧ (∀ x, X x → ¬ T3 a u x) ∧ (cat L n ++ cat M (2 * n)).Perm K))
  chg : Chg (fun b => B ≤ b) w0 w
  low : B ≤ a.g ∧ B ≤ a.ps ∧ ∀ b ∈ a.pb, B ≤ b
  lo : B ≤ g
  far : ∀ x, X x → x ≠ g ∧ x < w.heap.size
theorem GE.other {S : Nat → Prop} (k : GE B w0 w a g X n m on K) (hc : Chg S w w') (hs : ∀ x, x < w.heap.size → S x → X x ∧ B ≤ x) : GE B w0 w' a g X n m on K := by
  obtain ⟨t, s, nx, H, L, h1, h2, h3⟩ := k.ex
  have e : ∀ {o : Obj}, w.heap[g]? = some o → w'.heap[g]? = some o := fun {o} h => (hc.block g (Array.getElem?_eq_some_iff.1 h).1 fun q => (k.far _ (hs _ (Array.getElem?_eq_some_iff.1 h).1 q).1).1 rfl).trans h
  have sk : ∀ {t s nx n H L}, TL w a t s nx n H L → (∀ x, X x → ¬ T3 a t x) → TL w' a t s nx n H L := fun {t s nx n H L} q hx => q.skip (S := fun x => S x ∧ x < w.heap.size) ⟨hc.os, hc.tape, hc.output, hc.size, fun b hb hn => hc.block b hb fun q => hn ⟨q, hb⟩⟩ fun x hy q => hx x (hs x q.2 q.1).1 hy
  refine ⟨⟨t, s, nx, H, L, h1, h2, ?_⟩, k.chg.trans (hc.mono fun i hi h => (hs i hi h).2), k.low, k.lo, fun x hx => ⟨(k.far x hx).1, Nat.lt_of_lt_of_le (k.far x hx).2 hc.size⟩⟩
  rcases h3 with ⟨a1, a2, a3, a4⟩ | ⟨a1, u, I, M, a2, a3, a4, a5⟩
  · exact .inl ⟨a1, a2, ⟨sk a3.tl h2, e a3.blk, a3.off⟩, a4⟩
  · exact .inr ⟨a1, u, I, M, ⟨sk a2.tl h2, sk a2.ul a4, a2.ap, e a2.blk, a2.off, a2.ofu, a2.lt, a2.gone, a2.moved⟩, a3, a4, a5⟩
theorem GE.fresh (k : GE B w0 w a g X n m on K) (hc : Chg (fun _ => False) w w') : GE B w0 w' a g X n m on K := k.other hc fun _ _ h => h.elim
theorem GE.perm {K' : List Nat} (k : GE B w0 w a g X n m on K) (h : K.Perm K') : GE B w0 w a g X n m on K' := by
  obtain ⟨t, s, nx, H, L, h1, h2, h3⟩ := k.ex
  refine ⟨⟨t, s, nx, H, L, h1, h2, ?_⟩, k.chg, k.low, k.lo, k.far⟩
  rcases h3 with ⟨a1, a2, a3, a4⟩ | ⟨a1, u, I, M, a2, a3, a4, a5⟩
  · exact .inl ⟨a1, a2, a3, a4.trans h⟩
  · exact .inr ⟨a1, u, I, M, a2, a3, a4, a5.trans h⟩
/-- blocks that lie behind all of the table's -/
theorem GE.with (k : GE B w0 w a g X n m on K) (hc : Chg (fun _ => False) w w') (hs : w.heap.size < w'.heap.size) : GE B w0 w' a g (fun x => X x ∨ x = w.heap.size) n m on K := by
  have k2 := k.fresh hc
  obtain ⟨t, s, nx, H, L, h1, h2, h3⟩ := k.ex
  obtain ⟨t', s', nx', H', L', g1, g2, g3⟩ := k2.ex
  have e : ∀ {o : Obj}, w.heap[g]? = some o → g < w.heap.size := fun h => (Array.getElem?_eq_some_iff.1 h).1
  rcases h3 with ⟨a1, a2, a3, a4⟩ | ⟨a1, u, I, M, a2, a3, a4, a5⟩
  · exact ⟨⟨t, s, nx, H, L, h1, fun x hx q => by
      rcases hx with hx | rfl
      · exact h2 x hx q
      · have := t3_low a3.tl _ q; omega, .inl ⟨a1, a2, a3.fresh hc, a4⟩⟩, k2.chg, k.low, k.lo, fun x hx => by
      rcases hx with hx | rfl
      · exact k2.far x hx
      · have := e a3.blk; exact ⟨by omega, hs⟩⟩
  · exact ⟨⟨t, s, nx, H, L, h1, fun x hx q => by
      rcases hx with hx | rfl
      · exact h2 x hx q
      · have := t3_low a2.tl _ q; omega, .inr ⟨a1, u, I, M, a2.fresh hc, a3, fun x hx q => by
        rcases hx with hx | rfl
        · exact a4 x hx q
        · have := t3_low a2.ul _ q; omega, a5⟩⟩, k2.chg, k.low, k.lo, fun x hx => by
      rcases hx with hx | rfl
      · exact k2.far x hx
      · have := e a2.blk; exact ⟨by omega, hs⟩⟩
theorem g2_old (k : G2 w a g t u s nx n m H L I M) (hx : ¬ hb n x < m) : x ∉ M (hb (2 * n) x) := fun h => hx (k.moved _ (hb_lt k.ul.ti.pow x) x h)
theorem g2_new (k : G2 w a g t u s nx n m H L I M) (hx : hb n x < m) : x ∉ L (hb n x) := fun h => by rw [k.gone _ hx] at h; simp at h
theorem g2_mem (k : G2 w a g t u s nx n m H L I M) (x : Nat) : x ∈ cat L n ++ cat M (2 * n) ↔ if hb n x < m then x ∈ M (hb (2 * n) x) else x ∈ L (hb n x) := by
  rw [List.mem_append, ti_cat_in k.tl.ti, ti_cat_in k.ul.ti]
  split
  · rename_i h
    exact ⟨fun q => q.resolve_left (g2_new k h), .inr⟩
  · rename_i h
    exact ⟨fun q => q.resolve_right (g2_old k h), .inl⟩
theorem g2_nodup (k : G2 w a g t u s nx n m H L I M) : (cat L n ++ cat M (2 * n)).Nodup := by
  refine List.nodup_append.2 ⟨ti_cat_nodup k.tl.ti, ti_cat_nodup k.ul.ti, fun x hx y hy e => ?_⟩
  subst e
  obtain ⟨b, hb', h1⟩ := (cat_mem L x n).1 hx
  obtain ⟨c, hc', h2⟩ := (cat_mem M x _).1 hy
  have h3 := k.moved c hc' x h2
  have h4 := (k.tl.ti.mem b hb' x h1).2
  rw [k.gone b (by omega)] at h1
  simp at h1
theorem GE.nodup (k : GE B w0 w a g X n m on K) : K.Nodup := by
  obtain ⟨t, s, nx, H, L, h1, h2, h3⟩ := k.ex
  rcases h3 with ⟨a1, a2, a3, a4⟩ | ⟨a1, u, I, M, a2, a3, a4, a5⟩
  · exact a4.nodup_iff.1 (ti_cat_nodup a3.tl.ti)
  · exact a5.nodup_iff.1 (g2_nodup a2)
theorem GE.mem_lt (k : GE B w0 w a g X n m on K) {x : Nat} (hx : x ∈ K) : x < 30 := by
  obtain ⟨t, s, nx, H, L, h1, h2, h3⟩ := k.ex
  have go : ∀ {w t s nx H L} {n : Nat}, TL w a t s nx n H L → x ∈ cat L n → x < 30 := fun {w t s nx H L n} q h => by
    obtain ⟨b, hb', h⟩ := (cat_mem L x n).1 h
    exact (q.ti.mem b hb' x h).1
  rcases h3 with ⟨a1, a2, a3, a4⟩ | ⟨a1, u, I, M, a2, a3, a4, a5⟩
  · exact go a3.tl (a4.mem_iff.2 hx)
  · rcases List.mem_append.1 (a5.mem_iff.2 hx) with h | h
    · exact go a2.tl h
    · exact go a2.ul h
theorem GE.len (k : GE B w0 w a g X n m on K) : K.length ≤ 30 := nodup_len 30 K k.nodup fun x hx => k.mem_lt hx
theorem GE.pow (k : GE B w0 w a g X n m on K) : Fnv.Pow n := by
  obtain ⟨t, s, nx, H, L, h1, h2, h3⟩ := k.ex
  rcases h3 with ⟨a1, a2, a3, a4⟩ | ⟨a1, u, I, M, a2, a3, a4, a5⟩
  · exact a3.tl.ti.pow
  · exact a2.tl.ti.pow
/-! ### the acts -/
def finK (K : List Nat) (x : Nat) : Value := if x ∈ K then .tuple #[.int .i64 (64 * (x : Int)), .bool true] else .tuple #[.int .i64 0, .bool false]
theorem finV_eq (h : x ∈ K ↔ x ∈ L (hb n x)) : finV L n x = finK K x := by unfold finV finK; simp only [h]
theorem finV_form (L : Nat → List Nat) (n x : Nat) : ∃ y b, finV L n x = .tuple #[y, b] := by unfold finV; split <;> exact ⟨_, _, rfl⟩
theorem GE.find (k : GE B w0 w a g X n m on K) (hx : x < 30) : Calls Try.prog 55 #[(.pointer (some ⟨g, 0, none⟩)), .string (keyS x)] w fun e w' => e = .returned (finK K x) ∧ Chg (fun _ => False) w w' := by
  obtain ⟨t, s, nx, H, L, h1, h2, h3⟩ := k.ex
  rcases h3 with ⟨a1, a2, a3, a4⟩ | ⟨a1, u, I, M, a2, a3, a4, a5⟩
  · rw [← finV_eq (L := L) (n := n) (x := x) (by rw [← a4.mem_iff]; exact ti_cat_in a3.tl.ti x)]
    exact Find_of (table_one a3.tl.tm a3.tl.ti.pow a3.blk hx) fun W hd => (Assoc.TL.find (a3.tl.fresh (hd.chg _)) hx).mono fun e w' h => ⟨finV_form _ _ _, h⟩
  · have T := table_two a2.tl.tm a2.tl.ti.pow a2.blk hx
    have M2 := g2_mem a2 x
    rw [a5.mem_iff] at M2
    by_cases hm : hb n x < m
    · rw [if_pos hm] at T M2
      rw [← finV_eq (L := M) (n := 2 * n) (x := x) M2]
      exact Find_of T fun W hd => (Assoc.TL.find (a2.ul.fresh (hd.chg _)) hx).mono fun e w' h => ⟨finV_form _ _ _, h⟩
    · rw [if_neg hm] at T M2
      rw [← finV_eq (L := L) (n := n) (x := x) M2]
      exact Find_of T fun W hd => (Assoc.TL.find (a2.tl.fresh (hd.chg _)) hx).mono fun e w' h => ⟨finV_form _ _ _, h⟩
/-- an act's answer, and the table behind it -/
def GEnd (B : Nat) (w0 w : World) (a : Ar) (g : Nat) (X : Nat → Prop) (n m : Nat) (on : Bool) (K : List Nat) (v : Value) (e : Ending) (w' : World) : Prop := e = .returned v ∧ GE B w0 w' a g X n m on K ∧ Chg (fun x => ¬ X x) w w'
def insK (K : List Nat) (x : Nat) : List Nat := if x ∈ K then K else x :: K
def insV (K : List Nat) (x : Nat) : Int := if x ∈ K then 4 else 0
def delKV (K : List Nat) (x : Nat) : Value := if x ∈ K then .tuple #[.int .i64 (64 * (x : Int)), .int .i64 0] else .tuple #[.int .i64 0, .int .i64 3]
theorem insV_eq (h : x ∈ K ↔ x ∈ L (hb n x)) : insA L n x = insV K x := by unfold insA insV; simp only [h]
theorem delV_eq (h : x ∈ K ↔ x ∈ L (hb n x)) : delV L n x = delKV K x := by unfold delV delKV; simp only [h]
theorem delV_form (L : Nat → List Nat) (n x : Nat) : ∃ y b, delV L n x = .tuple #[y, b] := by unfold delV; split <;> exact ⟨_, _, rfl⟩
theorem cat_ins (h : TI nx n H L) (x : Nat) : (cat (insB L n x) n).Perm (insK (cat L n) x) := by
  unfold insK
  by_cases hm : x ∈ cat L n
  · rw [if_pos hm]
    have : x ∈ L (hb n x) := (ti_cat_in h x).1 hm
    unfold insB
    rw [if_pos this]
  · rw [if_neg hm]
    exact cat_insB h.pow hm
theorem cat_del (h : TI nx n H L) (x : Nat) : (cat (delB L n x) n).Perm ((cat L n).erase x) := by
  unfold delB
  by_cases hm : x ∈ L (hb n x)
  · rw [if_pos hm]
    exact (cat_erase L (hb_lt h.pow x) hm).symm
  · rw [if_neg hm, List.erase_of_not_mem fun q => hm ((ti_cat_in h x).1 q)]
theorem insK_perm {K K' : List Nat} (h : K.Perm K') (x : Nat) : (insK K x).Perm (insK K' x) := by
  unfold insK
  by_cases hm : x ∈ K
  · rw [if_pos hm, if_pos (h.mem_iff.1 hm)]; exact h
  · rw [if_neg hm, if_neg fun q => hm (h.mem_iff.2 q)]; exact h.cons x
theorem insK_left {A C : List Nat} (h : x ∉ C) : (insK (A ++ C) x).Perm (insK A x ++ C) := by
  unfold insK
  by_cases hm : x ∈ A
  · rw [if_pos hm, if_pos (by simp [hm])]
  · rw [if_neg hm, if_neg (by simp [hm, h])]
    rfl
theorem insK_right {A C : List Nat} (h : x ∉ A) : (insK (A ++ C) x).Perm (A ++ insK C x) := by
  unfold insK
  by_cases hm : x ∈ C
  · rw [if_pos hm, if_pos (by simp [hm])]
  · rw [if_neg hm, if_neg (by simp [hm, h])]
    exact List.perm_middle.symm
theorem t2_b (l1 : B ≤ t.b ∧ B ≤ t.h) (low : B ≤ a.g ∧ B ≤ a.ps ∧ ∀ b ∈ a.pb, B ≤ b) : ∀ y, T2 a t y → B ≤ y := fun y h => by
  rcases h with h | rfl | rfl
  · exact low.2.2 y h
  · exact l1.1
  · exact l1.2
theorem LEnd.v {D : Nat → Prop} {v : Value} {e : Ending} (h : LEnd w a t nx n L D v e w') : e = .returned v := h.1
set_option maxHeartbeats 1000000 in
theorem GE.insert (k : GE B w0 w a g X n m on K) (hx : x < 30) : Calls Try.prog 48 #[(.pointer (some ⟨g, 0, none⟩)), (.int .i64 (64 * (x : Int)))] w (GEnd B w0 w a g X n m on (insK K x) (.int .i64 (insV K x))) := by
  obtain ⟨t, s, nx, H, L, h1, h2, h3⟩ := k.ex
  rcases h3 with ⟨a1, a2, a3, a4⟩ | ⟨a1, u, I, M, a2, a3, a4, a5⟩
  · have mi : x ∈ K ↔ x ∈ L (hb n x) := by rw [← a4.mem_iff]; exact ti_cat_in a3.tl.ti x
    rw [← insV_eq mi]
    refine (Insert_of (R := fun W w' => ∃ s' nx' H', TL w' a t s' nx' n H' (insB L n x) ∧ (∀ y, ¬ y = x → nx' y = nx y) ∧ Chg (T2 a t) W w') (by rw [blk_cell a3.blk]; rfl) hx (Assoc.TL.key a3.tl hx w (Chg.refl _ _)) (fun W hW => table_one (a3.fresh hW).tl.tm a3.tl.ti.pow (a3.fresh hW).blk hx) (fun W hW => Assoc.TL.insert (a3.tl.fresh hW) hx)).mono ?_
    rintro e w' ⟨he, W, hW, s', nx', H', t1, t2, hc⟩
    have hcw : Chg (T2 a t) w w' := (hW.mono fun _ _ h => h.elim).trans hc
    have nX : ∀ y, T2 a t y → ¬ X y := fun y hy hX => h2 y hX (.inr (.inr hy))
    refine ⟨he, ⟨⟨t, s', nx', H', _, h1, h2, .inl ⟨a1, a2, ⟨t1, hcw.keep a3.blk fun h => a3.off (.inr (.inr h)), a3.off⟩, (cat_ins a3.tl.ti x).trans (insK_perm a4 x)⟩⟩, k.chg.trans (hcw.mono fun y _ hy => t2_b h1 k.low y hy), k.low, k.lo, fun y hy => ⟨(k.far y hy).1, Nat.lt_of_lt_of_le (k.far y hy).2 hcw.size⟩⟩, hcw.mono fun y _ hy => nX y hy⟩
  · have T := fun W (hW : Chg (fun _ => False) w W) => table_two (a2.fresh hW).tl.tm a2.tl.ti.pow (a2.fresh hW).blk hx
    have M2 := g2_mem a2 x
    rw [a5.mem_iff] at M2
    have nXt : ∀ y, T2 a t y → ¬ X y := fun y hy hX => h2 y hX (.inr (.inr hy))
    have nXu : ∀ y, T2 a u y → ¬ X y := fun y hy hX => a4 y hX (.inr (.inr hy))
    by_cases hm : hb n x < m
    · rw [if_pos hm] at M2
      rw [← insV_eq (n := 2 * n) M2]
      refine (Insert_of (R := fun W w' => ∃ s' nx' H', TL w' a u s' nx' (2 * n) H' (insB M (2 * n) x) ∧ (∀ y, ¬ y = x → nx' y = nx y) ∧ Chg (T2 a u) W w') (by rw [blk_cell a2.blk]; rfl) hx (Assoc.TL.key a2.tl hx w (Chg.refl _ _)) (fun W hW => by have := T W hW; rw [if_pos hm] at this; exact this) (fun W hW => Assoc.TL.insert (a2.ul.fresh hW) hx)).mono ?_
      rintro e w' ⟨he, W, hW, s', nx', I', t1, t2, hc⟩
      have hcw : Chg (T2 a u) w w' := (hW.mono fun _ _ h => h.elim).trans hc
      have tt := a2.tl.other t1 hcw a2.ap.symm fun b hb' y hy => t2 y fun e => by
        subst e
        have := (a2.tl.ti.mem b hb' y hy).2
        rw [a2.gone b (by omega)] at hy
        simp at hy
      refine ⟨he, ⟨⟨t, s', nx', H, L, h1, h2, .inr ⟨a1, u, I', _, ⟨tt, t1, a2.ap, hcw.keep a2.blk fun h => a2.ofu (.inr (.inr h)), a2.off, a2.ofu, a2.lt, a2.gone, fun b hb' y hy => by
          rcases insB_mem hy with rfl | hy
          · exact hm
          · exact a2.moved b hb' y hy⟩, a3, a4, ?_⟩⟩, k.chg.trans (hcw.mono fun y _ hy => t2_b a3 k.low y hy), k.low, k.lo, fun y hy => ⟨(k.far y hy).1, Nat.lt_of_lt_of_le (k.far y hy).2 hcw.size⟩⟩, hcw.mono fun y _ hy => nXu y hy⟩
      exact ((cat_ins a2.ul.ti x).append_left _).trans ((insK_right fun q => g2_new a2 hm ((ti_cat_in a2.tl.ti x).1 q)).symm.trans (insK_perm a5 x))
    · rw [if_neg hm] at M2
      rw [← insV_eq (n := n) M2]
      refine (Insert_of (R := fun W w' => ∃ s' nx' H', TL w' a t s' nx' n H' (insB L n x) ∧ (∀ y, ¬ y = x → nx' y = nx y) ∧ Chg (T2 a t) W w') (by rw [blk_cell a2.blk]; rfl) hx (Assoc.TL.key a2.tl hx w (Chg.refl _ _)) (fun W hW => by have := T W hW; rw [if_neg hm] at this; exact this) (fun W hW => Assoc.TL.insert (a2.tl.fresh hW) hx)).mono ?_
      rintro e w' ⟨he, W, hW, s', nx', H', t1, t2, hc⟩
      have hcw : Chg (T2 a t) w w' := (hW.mono fun _ _ h => h.elim).trans hc
      have uu := a2.ul.other t1 hcw a2.ap fun b hb' y hy => t2 y fun e => by
        subst e
        exact hm (a2.moved b hb' y hy)
      refine ⟨he, ⟨⟨t, s', nx', H', _, h1, h2, .inr ⟨a1, u, I, M, ⟨t1, uu, a2.ap, hcw.keep a2.blk fun h => a2.off (.inr (.inr h)), a2.off, a2.ofu, a2.lt, fun b hb' => ?_, a2.moved⟩, a3, a4, ?_⟩⟩, k.chg.trans (hcw.mono fun y _ hy => t2_b h1 k.low y hy), k.low, k.lo, fun y hy => ⟨(k.far y hy).1, Nat.lt_of_lt_of_le (k.far y hy).2 hcw.size⟩⟩, hcw.mono fun y _ hy => nXt y hy⟩
      · refine List.eq_nil_iff_forall_not_mem.2 fun y hy => ?_
        have e := (t1.ti.mem b (by have := a2.lt; omega) y hy).2
        rcases insB_mem hy with rfl | hy
        · omega
        · rw [a2.gone b hb'] at hy; simp at hy
      · exact ((cat_ins a2.tl.ti x).append_right _).trans ((insK_left fun q => g2_old a2 hm ((ti_cat_in a2.ul.ti x).1 q)).symm.trans (insK_perm a5 x))
theorem delB_mem {M : Nat → List Nat} {n x b y : Nat} (h : y ∈ delB M n x b) : y ∈ M b := by
  unfold delB at h
  split at h
  · unfold updL at h
    split at h
    · rename_i e
      subst e
      exact List.mem_of_mem_erase h
    · exact h
  · exact h
set_option maxHeartbeats 1000000 in
theorem GE.delete (k : GE B w0 w a g X n m on K) (hx : x < 30) : Calls Try.prog 54 #[(.pointer (some ⟨g, 0, none⟩)), .string (keyS x)] w (GEnd B w0 w a g X n m on (K.erase x) (delKV K x)) := by
  obtain ⟨t, s, nx, H, L, h1, h2, h3⟩ := k.ex
  rcases h3 with ⟨a1, a2, a3, a4⟩ | ⟨a1, u, I, M, a2, a3, a4, a5⟩
  · have mi : x ∈ K ↔ x ∈ L (hb n x) := by rw [← a4.mem_iff]; exact ti_cat_in a3.tl.ti x
    rw [← delV_eq mi]
    refine (Delete_of (R := fun W w' => ∃ s' nx' H', TL w' a t s' nx' n H' (delB L n x) ∧ (∀ y, ¬ hb n y = hb n x → nx' y = nx y) ∧ Chg (T2 a t) W w') (table_one a3.tl.tm a3.tl.ti.pow a3.blk hx) (fun W hW => (Assoc.TL.delete (a3.tl.fresh (hW.chg _)) hx).mono fun e w' h => ⟨delV_form _ _ _, h⟩)).mono ?_
    rintro e w' ⟨he, W, hW, s', nx', H', t1, t2, hc⟩
    have hcw : Chg (T2 a t) w w' := (hW.chg _).trans hc
    have nX : ∀ y, T2 a t y → ¬ X y := fun y hy hX => h2 y hX (.inr (.inr hy))
    refine ⟨he, ⟨⟨t, s', nx', H', _, h1, h2, .inl ⟨a1, a2, ⟨t1, hcw.keep a3.blk fun h => a3.off (.inr (.inr h)), a3.off⟩, (cat_del a3.tl.ti x).trans (a4.erase x)⟩⟩, k.chg.trans (hcw.mono fun y _ hy => t2_b h1 k.low y hy), k.low, k.lo, fun y hy => ⟨(k.far y hy).1, Nat.lt_of_lt_of_le (k.far y hy).2 hcw.size⟩⟩, hcw.mono fun y _ hy => nX y hy⟩
  · have T := table_two a2.tl.tm a2.tl.ti.pow a2.blk hx
    have M2 := g2_mem a2 x
    rw [a5.mem_iff] at M2
    have nXt : ∀ y, T2 a t y → ¬ X y := fun y hy hX => h2 y hX (.inr (.inr hy))
    have nXu : ∀ y, T2 a u y → ¬ X y := fun y hy hX => a4 y hX (.inr (.inr hy))
    by_cases hm : hb n x < m
    · rw [if_pos hm] at M2 T
      rw [← delV_eq (n := 2 * n) M2]
      refine (Delete_of (R := fun W w' => ∃ s' nx' H', TL w' a u s' nx' (2 * n) H' (delB M (2 * n) x) ∧ (∀ y, ¬ hb (2 * n) y = hb (2 * n) x → nx' y = nx y) ∧ Chg (T2 a u) W w') T (fun W hW => (Assoc.TL.delete (a2.ul.fresh (hW.chg _)) hx).mono fun e w' h => ⟨delV_form _ _ _, h⟩)).mono ?_
      rintro e w' ⟨he, W, hW, s', nx', I', t1, t2, hc⟩
      have hcw : Chg (T2 a u) w w' := (hW.chg _).trans hc
      have tt := a2.tl.other t1 hcw a2.ap.symm fun b hb' y hy => t2 y fun e => by
        have h5 := (a2.tl.ti.mem b hb' y hy).2
        have h6 := hb_twice a2.tl.ti.pow y
        have h7 := hb_twice a2.tl.ti.pow x
        rw [e] at h6
        rw [a2.gone b (by omega)] at hy
        simp at hy
      refine ⟨he, ⟨⟨t, s', nx', H, L, h1, h2, .inr ⟨a1, u, I', _, ⟨tt, t1, a2.ap, hcw.keep a2.blk fun h => a2.ofu (.inr (.inr h)), a2.off, a2.ofu, a2.lt, a2.gone, fun b hb' y hy => a2.moved b hb' y (delB_mem hy)⟩, a3, a4, ?_⟩⟩, k.chg.trans (hcw.mono fun y _ hy => t2_b a3 k.low y hy), k.low, k.lo, fun y hy => ⟨(k.far y hy).1, Nat.lt_of_lt_of_le (k.far y hy).2 hcw.size⟩⟩, hcw.mono fun y _ hy => nXu y hy⟩
      have h8 : x ∉ cat L n := fun q => g2_new a2 hm ((ti_cat_in a2.tl.ti x).1 q)
      have h9 := a5.erase x
      rw [List.erase_append_right _ h8] at h9
      exact ((cat_del a2.ul.ti x).append_left _).trans h9
    · rw [if_neg hm] at M2 T
      rw [← delV_eq (n := n) M2]
      refine (Delete_of (R := fun W w' => ∃ s' nx' H', TL w' a t s' nx' n H' (delB L n x) ∧ (∀ y, ¬ hb n y = hb n x → nx' y = nx y) ∧ Chg (T2 a t) W w') T (fun W hW => (Assoc.TL.delete (a2.tl.fresh (hW.chg _)) hx).mono fun e w' h => ⟨delV_form _ _ _, h⟩)).mono ?_
      rintro e w' ⟨he, W, hW, s', nx', H', t1, t2, hc⟩
      have hcw : Chg (T2 a t) w w' := (hW.chg _).trans hc
      have uu := a2.ul.other t1 hcw a2.ap fun b hb' y hy => t2 y fun e => hm (by rw [← e]; exact a2.moved b hb' y hy)
      refine ⟨he, ⟨⟨t, s', nx', H', _, h1, h2, .inr ⟨a1, u, I, M, ⟨t1, uu, a2.ap, hcw.keep a2.blk fun h => a2.off (.inr (.inr h)), a2.off, a2.ofu, a2.lt, fun b hb' => ?_, a2.moved⟩, a3, a4, ?_⟩⟩, k.chg.trans (hcw.mono fun y _ hy => t2_b h1 k.low y hy), k.low, k.lo, fun y hy => ⟨(k.far y hy).1, Nat.lt_of_lt_of_le (k.far y hy).2 hcw.size⟩⟩, hcw.mono fun y _ hy => nXt y hy⟩
      · exact List.eq_nil_iff_forall_not_mem.2 fun y hy => by have := delB_mem hy; rw [a2.gone b hb'] at this; simp at this
      · have h8 : x ∉ cat M (2 * n) := fun q => g2_old a2 hm ((ti_cat_in a2.ul.ti x).1 q)
        have h9 := a5.erase x
        by_cases h7 : x ∈ cat L n
        · rw [List.erase_append_left _ h7] at h9
          exact ((cat_del a2.tl.ti x).append_right _).trans h9
        · rw [List.erase_append_right _ h7, List.erase_of_not_mem h8] at h9
          have := cat_del a2.tl.ti x
          rw [List.erase_of_not_mem h7] at this
          exact (this.append_right _).trans h9
theorem GE.start_on (k : GE B w0 w a g X n m true K) : Calls Try.prog 49 #[(.pointer (some ⟨g, 0, none⟩))] w (GEnd B w0 w a g X n m true K (.int .i64 5)) := by
  obtain ⟨t, s, nx, H, L, h1, h2, h3⟩ := k.ex
  rcases h3 with ⟨a1, a2, a3, a4⟩ | ⟨a1, u, I, M, a2, a3, a4, a5⟩
  · exact absurd a1 (by decide)
  · exact (Grow.start_on (uv := .pointer none) a2.tl.tm a2.blk).mono fun e w' ⟨he, hd⟩ => ⟨he, k.fresh (hd.chg _), hd.chg _⟩
theorem GE.start_full (k : GE B w0 w a g X 64 m false K) : Calls Try.prog 49 #[(.pointer (some ⟨g, 0, none⟩))] w (GEnd B w0 w a g X 64 m false K (.int .i64 2)) := by
  obtain ⟨t, s, nx, H, L, h1, h2, h3⟩ := k.ex
  rcases h3 with ⟨a1, a2, a3, a4⟩ | ⟨a1, u, I, M, a2, a3, a4, a5⟩
  · exact (Grow.start_full a3.tl.tm a3.blk).mono fun e w' ⟨he, hd⟩ => ⟨he, k.fresh (hd.chg _), hd.chg _⟩
  · exact absurd a1 (by decide)
theorem cat_none (n : Nat) : cat (fun _ => []) n = [] := cat_nil _ _ fun _ _ => rfl
theorem GE.start_new (k : GE B w0 w a g X n m false K) (hn : n ≠ 64) : Calls Try.prog 49 #[(.pointer (some ⟨g, 0, none⟩))] w (GEnd B w0 w a g X n 0 true K (.int .i64 0)) := by
  obtain ⟨t, s, nx, H, L, h1, h2, h3⟩ := k.ex
  rcases h3 with ⟨a1, a2, a3, a4⟩ | ⟨a1, u, I, M, a2, a3, a4, a5⟩
  · refine (Grow.start_new a3 hn).mono ?_
    rintro e w' ⟨he, u, g2, hc, l1, l2⟩
    have hX : ∀ x, X x → ¬ T3 a u x := fun x hx q => by
      have h5 := (k.far x hx).2
      rcases q with q | q | q | q | q
      · exact h2 x hx (.inl q)
      · exact h2 x hx (.inr (.inl q))
      · exact h2 x hx (.inr (.inr (.inl q)))
      · omega
      · omega
    have hB := k.chg.size
    have gB : B ≤ w.heap.size := by have := blk_lt a3.blk; have := k.lo; omega
    exact ⟨he, ⟨⟨t, s, nx, H, L, h1, h2, .inr ⟨rfl, u, _, _, g2, ⟨by omega, by omega⟩, hX, by rw [cat_none, List.append_nil]; exact a4⟩⟩, k.chg.trans (hc.mono fun y _ hy => hy ▸ k.lo), k.low, k.lo, fun y hy => ⟨(k.far y hy).1, Nat.lt_of_lt_of_le (k.far y hy).2 hc.size⟩⟩, hc.mono fun y _ hy hX => (k.far y hX).1 hy⟩
  · exact absurd a1 (by decide)
theorem GE.step_off (k : GE B w0 w a g X n m false K) : Calls Try.prog 51 #[(.pointer (some ⟨g, 0, none⟩))] w (GEnd B w0 w a g X n m false K (.bool false)) := by
  obtain ⟨t, s, nx, H, L, h1, h2, h3⟩ := k.ex
  rcases h3 with ⟨a1, a2, a3, a4⟩ | ⟨a1, u, I, M, a2, a3, a4, a5⟩
  · exact (Grow.step_off a3.blk).mono fun e w' ⟨he, hc⟩ => ⟨he, k.fresh hc, hc.mono fun _ _ h => h.elim⟩
  · exact absurd a1 (by decide)
theorem step_perm (k : G2 w a g t u s nx n m H L I M) : (cat (updL L m []) n ++ cat (insAll M (2 * n) (L m).reverse) (2 * n)).Perm (cat L n ++ cat M (2 * n)) := by
  have h1 := cat_out L m n k.lt
  have h2 := cat_insAll (k := 2 * n) k.ul.ti.pow (L m).reverse M ((List.reverse_perm (L m)).nodup_iff.2 (k.tl.ti.nodup m k.lt)) fun x hx q => by
    have h5 := (k.tl.ti.mem m k.lt x (List.mem_reverse.1 hx)).2
    obtain ⟨b, hb', h6⟩ := (cat_mem M x _).1 q
    have := k.moved b hb' x h6
    omega
  refine (h2.append_left _).trans ?_
  refine .trans ?_ (h1.symm.append_right _)
  rw [← List.append_assoc]
  refine List.Perm.append_right _ ?_
  exact ((List.reverse_perm (L m)).append_left _).trans List.perm_append_comm
/-- a step: one bucket more has been moved; behind the last one the table has twice as many -/
theorem GE.step_on (k : GE B w0 w a g X n m true K) : m < n ∧ Calls Try.prog 51 #[(.pointer (some ⟨g, 0, none⟩))] w (GEnd B w0 w a g X (if m + 1 < n then n else 2 * n) (if m + 1 < n then m + 1 else 0) (decide (m + 1 < n)) K (.bool (decide (m + 1 < n)))) := by
  obtain ⟨t, s, nx, H, L, h1, h2, h3⟩ := k.ex
  rcases h3 with ⟨a1, a2, a3, a4⟩ | ⟨a1, u, I, M, a2, a3, a4, a5⟩
  · exact absurd a1 (by decide)
  · refine ⟨a2.lt, (step_walk a2).mono ?_⟩
    rintro e w' ⟨⟨s', nx', H', I', h | h⟩, hc⟩
    all_goals
      have sX : ∀ y, T4 a t u g y → ¬ X y ∧ B ≤ y := fun y hy => by
        rcases hy with hy | hy | rfl
        · exact ⟨fun hX => h2 y hX (.inr (.inr hy)), t2_b h1 k.low y hy⟩
        · exact ⟨fun hX => a4 y hX (.inr (.inr hy)), t2_b a3 k.low y hy⟩
        · exact ⟨fun hX => (k.far y hX).1 rfl, k.lo⟩
      have SP := (step_perm a2).trans a5
    · obtain ⟨e1, rfl, q⟩ := h
      rw [if_pos e1, if_pos e1, decide_eq_true e1]
      exact ⟨rfl, ⟨⟨t, s', nx', H', _, h1, h2, .inr ⟨rfl, u, I', _, q, a3, a4, SP⟩⟩, k.chg.trans (hc.mono fun y _ hy => (sX y hy).2), k.low, k.lo, fun y hy => ⟨(k.far y hy).1, Nat.lt_of_lt_of_le (k.far y hy).2 hc.size⟩⟩, hc.mono fun y _ hy => (sX y hy).1⟩
    · obtain ⟨e1, rfl, q, q2⟩ := h
      have e2 : ¬ m + 1 < n := by omega
      rw [if_neg e2, if_neg e2, decide_eq_false e2]
      rw [cat_nil _ _ q2, List.nil_append] at SP
      exact ⟨rfl, ⟨⟨u, s', nx', I', _, a3, a4, .inl ⟨rfl, rfl, q, SP⟩⟩, k.chg.trans (hc.mono fun y _ hy => (sX y hy).2), k.low, k.lo, fun y hy => ⟨(k.far y hy).1, Nat.lt_of_lt_of_le (k.far y hy).2 hc.size⟩⟩, hc.mono fun y _ hy => (sX y hy).1⟩
theorem GE.state (k : GE B w0 w a g X n m on K) : Calls Try.prog 53 #[(.pointer (some ⟨g, 0, none⟩))] w fun e w' => e = .returned (.tuple #[.int .i64 n, .int .i64 m, .bool on]) ∧ Dr w w' := by
  obtain ⟨t, s, nx, H, L, h1, h2, h3⟩ := k.ex
  rcases h3 with ⟨rfl, rfl, a3, a4⟩ | ⟨rfl, u, I, M, a2, a3, a4, a5⟩
  · exact state_calls a3.tl.tm (.inl ⟨rfl, rfl⟩) a3.blk
  · exact state_calls a2.tl.tm (.inr ⟨⟨_, rfl⟩, rfl⟩) a2.blk
end Go.Proofs.Ytolpjgpimholcaa.Grow

/- What a growing table's Len and All answer; a table begun. -/
namespace Go.Proofs.Ytolpjgpimholcaa.Grow
open Go Go.RowKit Go.Proofs.Ytolpjgpimholcaa.Mem Go.Proofs.Ytolpjgpimholcaa.CodecPure Go.Proofs.Ytolpjgpimholcaa.ArenaPure Go.Proofs.Ytolpjgpimholcaa.Codec Go.Proofs.Ytolpjgpimholcaa.Arena Go.Proofs.Ytolpjgpimholcaa.Item Go.Proofs.Ytolpjgpimholcaa.Fnv Go.Proofs.Ytolpjgpimholcaa.Assoc
set_option linter.unusedVariables false
set_option maxRecDepth 100000
variable {B : Nat} {w0 w w' : World} {a : Ar} {t u : Th} {g : Nat} {X : Nat → Prop} {s s' : St} {nx nx' : Nat → Int} {n m k x : Nat} {on : Bool} {H I H' : List Int} {L M L' : Nat → List Nat} {K : List Nat}
theorem tab1 (h : w.heap[g]? = some (.cells #[(.pointer (some ⟨a.g, 0, none⟩)), (.pointer (some ⟨t.b, 0, none⟩)), .pointer none, .int .i64 0] 141 (0, 0))) :
    Calls Try.prog 91 #[(.pointer (some ⟨g, 0, none⟩))] w fun e w' => ∃ q, e = .returned (.slice (some ⟨q, 0, none⟩) [((t.b, n, L) : Pt)].length [((t.b, n, L) : Pt)].length) ∧ (∀ i, i < [((t.b, n, L) : Pt)].length → w'.cell? ⟨q, i, none⟩ = some (.pointer (some ⟨([((t.b, n, L) : Pt)].getD i p0).1, 0, none⟩))) ∧ Chg (fun _ => False) w w' :=
  (tables_one h).mono fun e w' ⟨he, hw⟩ => ⟨_, he, fun i hi => by
    subst hw
    obtain rfl : i = 0 := by simp at hi; exact hi
    rw [blk_cell (heap_alloc_at w (.cells #[(.pointer (some ⟨t.b, 0, none⟩))] 56))]; rfl, by subst hw; exact Chg.alloc _ _ _⟩
theorem tab2 (h : w.heap[g]? = some (.cells #[(.pointer (some ⟨a.g, 0, none⟩)), (.pointer (some ⟨t.b, 0, none⟩)), (.pointer (some ⟨u.b, 0, none⟩)), .int .i64 m] 141 (0, 0))) :
    Calls Try.prog 91 #[(.pointer (some ⟨g, 0, none⟩))] w fun e w' => ∃ q, e = .returned (.slice (some ⟨q, 0, none⟩) [((t.b, n, L) : Pt), (u.b, k, M)].length [((t.b, n, L) : Pt), (u.b, k, M)].length) ∧ (∀ i, i < [((t.b, n, L) : Pt), (u.b, k, M)].length → w'.cell? ⟨q, i, none⟩ = some (.pointer (some ⟨([((t.b, n, L) : Pt), (u.b, k, M)].getD i p0).1, 0, none⟩))) ∧ Chg (fun _ => False) w w' :=
  (tables_two h).mono fun e w' ⟨q, he, hb, hc⟩ => ⟨q, he, fun i hi => by
    have hi' : i < 2 := hi
    rcases (show i = 0 ∨ i = 1 by omega) with rfl | rfl
    · rw [blk_cell hb]; rfl
    · rw [blk_cell hb]; rfl, hc⟩
theorem items1 (p : Pt) : items [p] = cat p.2.2 p.2.1 := by simp [items]
theorem items2 (p q : Pt) : items [p, q] = cat p.2.2 p.2.1 ++ cat q.2.2 q.2.1 := by simp [items]
theorem GE.both (k : GE B w0 w a g X n m on K) : ∃ P, P.Perm K ∧ Calls Try.prog 52 #[(.pointer (some ⟨g, 0, none⟩))] w (AEnd w P) ∧ Calls Try.prog 50 #[(.pointer (some ⟨g, 0, none⟩))] w fun e w' => e = .returned (.int .i64 K.length) ∧ Chg (fun _ => False) w w' := by
  have K30 := k.len
  obtain ⟨t, s, nx, H, L, h1, h2, h3⟩ := k.ex
  have nr := k.pow.range
  rcases h3 with ⟨a1, a2, a3, a4⟩ | ⟨a1, u, I, M, a2, a3, a4, a5⟩
  · have it : (items [((t.b, n, L) : Pt)]).Perm K := by rw [items1]; exact a4
    have tt : tot [((t.b, n, L) : Pt)] = K.length := by rw [← items_len, it.length_eq]
    have T := tab1 (n := n) (L := L) a3.blk
    have S : ∀ W i, Chg (fun _ => False) w W → i < [((t.b, n, L) : Pt)].length → Calls Try.prog 34 #[(.pointer (some ⟨([((t.b, n, L) : Pt)].getD i p0).1, 0, none⟩))] W fun e w' => e = .returned (.tuple #[.int .i64 ([((t.b, n, L) : Pt)].getD i p0).2.1, .int .i64 (total ([((t.b, n, L) : Pt)].getD i p0).2.2 ([((t.b, n, L) : Pt)].getD i p0).2.1)]) ∧ Dr W w' := fun W i hW hi => by
      obtain rfl : i = 0 := by simp at hi; exact hi
      exact size_calls (a3.fresh hW).tl.tm
    refine ⟨_, it, all_of _ (by simp) (by rw [tt]; omega) (fun p hp => by rw [List.mem_singleton.1 hp]; show n ≤ _; omega) T S fun W i b hW hi hb' => ?_, ?_⟩
    · obtain rfl : i = 0 := by simp at hi; exact hi
      exact bucket_in (a3.fresh hW).tl hb'
    · have := len_of _ (by simp) (by rw [tt]; omega) T S
      rw [tt] at this
      exact this
  · have it : (items [((t.b, n, L) : Pt), (u.b, 2 * n, M)]).Perm K := by rw [items2]; exact a5
    have tt : tot [((t.b, n, L) : Pt), (u.b, 2 * n, M)] = K.length := by rw [← items_len, it.length_eq]
    have T := tab2 (n := n) (L := L) (k := 2 * n) (M := M) a2.blk
    have S : ∀ W i, Chg (fun _ => False) w W → i < [((t.b, n, L) : Pt), (u.b, 2 * n, M)].length → Calls Try.prog 34 #[(.pointer (some ⟨([((t.b, n, L) : Pt), (u.b, 2 * n, M)].getD i p0).1, 0, none⟩))] W fun e w' => e = .returned (.tuple #[.int .i64 ([((t.b, n, L) : Pt), (u.b, 2 * n, M)].getD i p0).2.1, .int .i64 (total ([((t.b, n, L) : Pt), (u.b, 2 * n, M)].getD i p0).2.2 ([((t.b, n, L) : Pt), (u.b, 2 * n, M)].getD i p0).2.1)]) ∧ Dr W w' := fun W i hW hi => by
      have hi' : i < 2 := hi
      rcases (show i = 0 ∨ i = 1 by omega) with rfl | rfl
      · exact size_calls (a2.fresh hW).tl.tm
      · exact size_calls (a2.fresh hW).ul.tm
    refine ⟨_, it, all_of _ (by simp) (by rw [tt]; omega) (fun p hp => by
      simp only [List.mem_cons, List.not_mem_nil, or_false] at hp
      rcases hp with rfl | rfl
      · show n ≤ _; omega
      · show 2 * n ≤ _; omega) T S fun W i b hW hi hb' => ?_, ?_⟩
    · have hi' : i < 2 := hi
      rcases (show i = 0 ∨ i = 1 by omega) with rfl | rfl
      · exact bucket_in (a2.fresh hW).tl hb'
      · exact bucket_in (a2.fresh hW).ul hb'
    · have := len_of _ (by simp) (by rw [tt]; omega) T S
      rw [tt] at this
      exact this
/-- a table begun behind Laid -/
theorem GE.start {w1 : World} {r : Ra} (T : Two w.heap.size w w1 a r (laidS 30) (laidS 30)) : Calls Try.prog 47 #[(.pointer (some ⟨a.g, 0, none⟩))] w1 fun e w' => ∃ g : Nat, e = .returned (.pointer (some ⟨g, 0, none⟩)) ∧ GE w.heap.size w w' a g (fun _ => False) 8 0 false [] ∧ Chg (fun _ => False) w1 w' :=
  (grow_new T.here.lies ns_laid).mono fun e w2 ⟨g, t, h1, h2, h3, h4, h5, h6⟩ => by
    have z := T.here.chg.size
    have hh := T.here.fresh h3
    exact ⟨g, h1, ⟨⟨t, _, _, _, _, ⟨by omega, by omega⟩, fun _ h => h.elim, .inl ⟨rfl, rfl, h2, by rw [cat_none]⟩⟩, hh.chg, hh.low, by omega, fun _ h => h.elim⟩, h3⟩
end Go.Proofs.Ytolpjgpimholcaa.Grow

/- Chapter 11's works: it returns true. -/
namespace Go.Proofs.Ytolpjgpimholcaa.Grow
open Go Go.RowKit Go.Proofs.Ytolpjgpimholcaa.Mem Go.Proofs.Ytolpjgpimholcaa.CodecPure Go.Proofs.Ytolpjgpimholcaa.ArenaPure Go.Proofs.Ytolpjgpimholcaa.Codec Go.Proofs.Ytolpjgpimholcaa.Arena Go.Proofs.Ytolpjgpimholcaa.Item Go.Proofs.Ytolpjgpimholcaa.Fnv Go.Proofs.Ytolpjgpimholcaa.Assoc
set_option linter.unusedVariables false
set_option maxRecDepth 100000
theorem kk0 : insK [] 0 = [0] ∧ insV [] 0 = 0 ∧ insK [0] 0 = [0] ∧ insV [0] 0 = 4 := by decide
theorem kf0 : finK [0] 0 = .tuple #[.int .i64 0, .bool true] := by unfold finK; rw [if_pos (by simp)]; rfl
set_option maxHeartbeats 4000000 in
theorem works11_calls (w : World) : Calls Try.prog 46 #[] w fun e w' => e = .returned (.bool true) ∧ Chg (fun _ => False) w w' := by
  go_enter Try.func46, Try.ntmps46
  go_wp2_with fail
  refine (laid_calls w).mono ?_
  rintro e w1 ⟨a, r, rfl, T⟩
  replace T := Lib.hid T
  go_wp2_with fail
  refine (GE.start T.out).mono ?_
  rintro e w2 ⟨g, rfl, k0, -⟩
  have S0 := Lib.hid (fun W => keys_calls 0 W 0 (by decide) small0)
  have Q : Hid (Calls Try.prog 48 #[(.pointer (some ⟨g, 0, none⟩)), (.int .i64 0)] w2 (GEnd w.heap.size w w2 a g (fun _ => False) 8 0 false [0] (.int .i64 0))) := k0.insert (x := 0) (by decide)
  clear k0 T
  go_wp2_with fail
  refine Q.out.mono ?_
  rintro e w3 ⟨rfl, k1, -⟩
  replace Q : Hid (Calls Try.prog 48 #[(.pointer (some ⟨g, 0, none⟩)), (.int .i64 0)] w3 (GEnd w.heap.size w w3 a g (fun _ => False) 8 0 false [0] (.int .i64 4))) := k1.insert (x := 0) (by decide)
  clear k1
  go_wp2_with fail
  refine Q.out.mono ?_
  rintro e w4 ⟨rfl, k2, -⟩
  replace Q := Lib.hid (k2.start_new (by decide))
  clear k2
  go_wp2_with fail
  refine Q.out.mono ?_
  rintro e w5 ⟨rfl, k3, -⟩
  replace Q := Lib.hid k3.start_on
  clear k3
  go_wp2_with fail
  refine Q.out.mono ?_
  rintro e w6 ⟨rfl, k4, -⟩
  replace k4 := Lib.hid k4
  clear Q
  go_wp2_with fail
  go_loopg [5] 8 (fun q i wr => ∃ k : Nat, i = .int .i64 k ∧ q = 8 - k ∧ k ≤ 8 ∧ Hid (GE w.heap.size w wr a g (fun _ => False) (if k < 8 then 8 else 16) (if k < 8 then k else 0) (decide (k < 8)) [0]))
  case atStart => exact ⟨0, rfl, rfl, by omega, k4.out⟩
  case round =>
    clear k4
    obtain ⟨k, rfl, hg, hk, G⟩ := hrel
    replace hg := Lib.hid hg
    by_cases h1 : k < 8
    · have h1' : (k : Int) < 8 := by omega
      have G' := G.out
      rw [if_pos h1, if_pos h1, decide_eq_true h1] at G'
      have ST := G'.step_on.2
      have GN : Hid (∀ W, GE w.heap.size w W a g (fun _ => False) (if k + 1 < 8 then 8 else 2 * 8) (if k + 1 < 8 then k + 1 else 0) (decide (k + 1 < 8)) [0] → GE w.heap.size w W a g (fun _ => False) (if k + 1 < 8 then 8 else 16) (if k + 1 < 8 then k + 1 else 0) (decide (k + 1 < 8)) [0]) := fun W h => h
      replace ST := Lib.hid ST
      clear G G'
      by_cases h2 : k < 7
      · have h2' : (k : Int) < 7 := by omega
        have e2 : decide (k + 1 < 8) = true := decide_eq_true (by omega)
        rw [e2] at ST
        go_wp2_with fail
        refine ST.out.mono ?_
        rintro e w7 ⟨rfl, k5, -⟩
        have k6 : Hid (GE w.heap.size w w7 a g (fun _ => False) (if k + 1 < 8 then 8 else 16) (if k + 1 < 8 then k + 1 else 0) (decide (k + 1 < 8)) [0]) := by rw [e2]; exact k5
        clear k5 ST GN e2
        go_wp2_with fail
        go_roundg (8 - (k + 1))
        case measure => have := hg.out; omega
        case rel => exact ⟨k + 1, rfl, rfl, by omega, k6.out⟩
      · have h2' : ¬ (k : Int) < 7 := by omega
        have e2 : decide (k + 1 < 8) = false := decide_eq_false (by omega)
        rw [e2] at ST
        go_wp2_with fail
        refine ST.out.mono ?_
        rintro e w7 ⟨rfl, k5, -⟩
        have k6 : Hid (GE w.heap.size w w7 a g (fun _ => False) (if k + 1 < 8 then 8 else 16) (if k + 1 < 8 then k + 1 else 0) (decide (k + 1 < 8)) [0]) := by rw [e2]; exact k5
        clear k5 ST GN e2
        go_wp2_with fail
        go_roundg (8 - (k + 1))
        case measure => have := hg.out; omega
        case rel => exact ⟨k + 1, rfl, rfl, by omega, k6.out⟩
    · have h1' : ¬ (k : Int) < 8 := by omega
      obtain rfl : k = 8 := by omega
      have G' : GE w.heap.size w wr a g (fun _ => False) 16 0 false [0] := G.out
      have SC := Lib.hid G'.state
      replace G' := Lib.hid G'
      clear G
      go_wp2_with fail
      refine SC.out.mono ?_
      rintro e w7 ⟨rfl, hd⟩
      have K7 := Lib.hid (G'.out.fresh (hd.chg _))
      clear hd SC G'
      go_wp2_with fail
      refine (S0.out _).mono ?_
      rintro e w8 ⟨rfl, hc⟩
      have K8 := Lib.hid (K7.out.fresh hc)
      have FN := K8.out.find (x := 0) (by decide)
      rw [kf0] at FN
      replace FN := Lib.hid FN
      clear hc K7
      go_wp2_with fail
      refine FN.out.mono ?_
      rintro e w9 ⟨rfl, hc⟩
      have K9 := Lib.hid (K8.out.fresh hc)
      obtain ⟨P, hP, AL, LN⟩ := K9.out.both
      replace LN := Lib.hid LN
      clear hc FN K8 hP AL
      go_wp2_with fail
      refine LN.out.mono ?_
      rintro e w10 ⟨rfl, hc⟩
      have K10 := Lib.hid (K9.out.fresh hc)
      obtain ⟨P, hP, AL, LN⟩ := K10.out.both
      rw [List.perm_singleton.1 hP] at AL
      replace AL := Lib.hid AL
      clear hc K9 LN hP
      go_wp2_with fail
      refine AL.out.mono ?_
      rintro e w11 ⟨A, c, rfl, ho, hc⟩
      have K11 := Lib.hid (K10.out.fresh hc)
      have sA : Sl (w11.alloc (.cells (nums .i64 [0]).toArray 3)) .i64 A (pls [0]) := ho.sl.chg (Chg.alloc (fun _ => False) _ _) fun _ _ => id
      have sB := sl_lit w11 .i64 [0] 3 (0, 0)
      have Z := Lib.hid (same06_calls (c := c) (d := 1) (l := [0]) sA sB (by decide))
      clear ho hc AL K10 sA sB
      go_wp2_with fail
      refine Z.out.mono ?_
      rintro e w12 ⟨rfl, hd⟩
      have K12 := Lib.hid ((K11.out.fresh (Chg.alloc (fun _ => False) _ (.cells (nums .i64 [0]).toArray 3))).fresh (hd.chg _))
      have SF := Lib.hid K12.out.step_off
      clear hd Z K11
      go_wp2_with fail
      refine SF.out.mono ?_
      rintro e w13 ⟨rfl, k13, -⟩
      have F : Hid (Chg (fun _ => False) w w13) := k13.chg.mono fun b h1 h2 => by omega
      clear k13 SF K12
      go_wp2_with fail
      go_ret
      exact ⟨rfl, F.out⟩
end Go.Proofs.Ytolpjgpimholcaa.Grow

/- The walk of chapter 11's GrowEnds. -/
namespace Go.Proofs.Ytolpjgpimholcaa.Grow
open Go Go.RowKit Go.Proofs.Ytolpjgpimholcaa.Mem Go.Proofs.Ytolpjgpimholcaa.CodecPure Go.Proofs.Ytolpjgpimholcaa.ArenaPure Go.Proofs.Ytolpjgpimholcaa.Codec Go.Proofs.Ytolpjgpimholcaa.Arena Go.Proofs.Ytolpjgpimholcaa.Item Go.Proofs.Ytolpjgpimholcaa.Fnv Go.Proofs.Ytolpjgpimholcaa.Assoc
set_option linter.unusedVariables false
set_option maxRecDepth 100000
theorem nodup_at {l : List Nat} (h : l.Nodup) {i j : Nat} (hi : i < j) (hj : j < l.length) : l.getD j 0 ≠ l.getD i 0 := by
  have := List.pairwise_iff_getElem.1 h i j (by omega) hj hi
  rw [List.getD_eq_getElem?_getD, List.getElem?_eq_getElem hj, List.getD_eq_getElem?_getD, List.getElem?_eq_getElem (show i < l.length by omega)]
  exact fun e => this e.symm
set_option maxHeartbeats 4000000 in
theorem ends_walk (A : Option Addr) (c : Nat) (l : List Int) (tm : Int) (w : World) (hl : RowOf w .i64 A c l 8) (wf1 : (Lit.int .i64 tm).wf = true) :
    Calls Try.prog 11 #[.slice A l.length c, (.int .i64 tm)] w fun e w' => e = .returned (.bool true) ∧ Below w.heap.size w w' := by
  have hlm : l.length ≤ 9223372036854775807 := Nat.le_trans hl.cap hl.most
  replace hl := Lib.hid hl
  obtain ⟨ln, hn⟩ : ∃ n, l.length = n := ⟨_, rfl⟩
  rw [hn] at hlm ⊢
  replace hn := Lib.hid hn
  obtain ⟨T, hT, x1, x2⟩ := small tm 5 (by decide)
  replace x1 : (IntKind.u64.wrap tm).tmod 5 = T := x1
  clear x2 wf1
  go_enter Try.func11, Try.ntmps11
  go_wp2_with fail
  refine (works11_calls w).mono ?_
  rintro e wa ⟨rfl, hc⟩
  have CW := Lib.hid hc
  clear hc
  go_wp2_with fail
  refine (laid_calls wa).mono ?_
  rintro e w1 ⟨a, r, rfl, TT⟩
  replace TT := Lib.hid TT
  go_wp2_with fail
  refine (GE.start TT.out).mono ?_
  rintro e w2 ⟨g, rfl, K0, -⟩
  replace K0 := Lib.hid K0
  clear TT
  have CBW : Hid (∀ W, Chg (fun b => wa.heap.size ≤ b) wa W → Below w.heap.size w W) := fun W hc => ((CW.out.mono fun _ _ h => h.elim).trans (hc.mono fun b _ hb => Nat.le_trans CW.out.size hb)).below (Nat.le_refl _) fun _ h => h
  go_wp2_with fail
  go_loopg [9, 10] 40 (fun q n i wr => ∃ (k : Nat) (K : List Nat), n = .int .i64 K.length ∧ i = .int .i64 k ∧ q = 40 - k ∧ k ≤ 40 ∧ k ≤ ln ∧ Hid (GE wa.heap.size wa wr a g (fun _ => False) 8 0 false K))
  case atStart => exact ⟨0, _, rfl, rfl, rfl, by omega, by omega, K0.out⟩
  case round =>
    clear K0
    obtain ⟨k, K, rfl, rfl, hg, hk, hkn, G⟩ := hrel
    replace hg := Lib.hid hg
    have L30 := G.out.len
    by_cases hlt : k < ln ∧ k < 40
    · obtain ⟨h1, h2⟩ := hlt
      have h1' : (k : Int) < ln := by omega
      have h2' : (k : Int) < 40 := by omega
      have CC : Chg (fun b => w.heap.size ≤ b) w wr := (CW.out.mono fun _ _ h => h.elim).trans (G.out.chg.mono fun b _ hb => Nat.le_trans CW.out.size hb)
      obtain ⟨ad, rfl, cj⟩ := hl.out.sl k (by rw [hn.out]; exact h1)
      have cj2 := CC.cell cj (by have := World.block_lt_of_cell? w _ cj; omega)
      clear CC cj
      generalize l.getD k 0 = x1 at cj2
      obtain ⟨kk, hkk, q1, -⟩ := small x1 30 (by decide)
      have PC : Hid (∀ W, Calls Try.prog 31 #[(.int .i64 x1)] W fun e w' => e = .returned ((.int .i64 (64 * (kk : Int)))) ∧ w' = W) := fun W => place10_calls x1 W kk hkk q1
      have IN := G.out.insert hkk
      clear q1
      by_cases hm : kk ∈ K
      · unfold insK insV at IN
        rw [if_pos hm, if_pos hm] at IN
        replace IN := Lib.hid IN
        clear hm
        go_wp2_with fail
        refine (PC.out _).mono ?_
        rintro e wq ⟨rfl, rfl⟩
        clear PC
        go_wp2_with fail
        refine IN.out.mono ?_
        rintro e w4 ⟨rfl, hq, -⟩
        have K4 := Lib.hid hq
        clear hq G cj2 IN
        go_wp2_with fail
        go_roundg (40 - (k + 1))
        case measure => have := hg.out; omega
        case rel => exact ⟨k + 1, _, rfl, rfl, rfl, by omega, by omega, K4.out⟩
      · unfold insK insV at IN
        rw [if_neg hm, if_neg hm] at IN
        replace IN := Lib.hid IN
        clear hm
        go_wp2_with fail
        refine (PC.out _).mono ?_
        rintro e wq ⟨rfl, rfl⟩
        clear PC
        go_wp2_with fail
        refine IN.out.mono ?_
        rintro e w4 ⟨rfl, hq, -⟩
        have K4 := Lib.hid hq
        clear hq G cj2 IN
        go_wp2_with fail
        go_roundg (40 - (k + 1))
        case measure => have := hg.out; omega
        case rel => exact ⟨k + 1, kk :: K, by rw [List.length_cons, Int.natCast_add]; rfl, rfl, rfl, by omega, by omega, K4.out⟩
    · have hend : ((ln : Int) ≤ k) ∨ ((k : Int) < ln ∧ ¬ (k : Int) < 40) := by omega
      obtain ⟨N, hN⟩ : ∃ N, K.length = N := ⟨_, rfl⟩
      rw [hN] at L30 ⊢
      replace hN := Lib.hid hN
      rcases hend with h1' | ⟨h1', h2'⟩
      all_goals
        (go_wp2_with fail
         go_loopg [11, 12] T (fun q n i wr => ∃ (j nb : Nat), n = .int .i64 nb ∧ i = .int .i64 j ∧ q = T - j ∧ j ≤ T ∧ Hid (GE wa.heap.size wa wr a g (fun _ => False) nb 0 false K))
         case atStart => exact ⟨0, 8, rfl, rfl, rfl, by omega, G.out⟩
         case round =>
           clear G
           obtain ⟨j, nb, rfl, rfl, hg, hj, G⟩ := hrel
           replace hg := Lib.hid hg
           have nr := G.out.pow.range
           have np := G.out.pow
           by_cases h3 : j < T
           · have h3' : (j : Int) < T := by omega
             by_cases h4 : nb = 64
             · subst h4
               have ST := Lib.hid G.out.start_full
               clear np nr
               go_wp2_with fail
               refine ST.out.mono ?_
               rintro e w4 ⟨rfl, k4, -⟩
               obtain ⟨P, hP, AL, LN⟩ := k4.both
               rw [hN.out] at LN
               have F := Lib.hid k4.chg
               replace LN := Lib.hid LN
               clear ST k4 AL hP G
               go_wp2_with fail
               refine LN.out.mono ?_
               rintro e w5 ⟨rfl, hc⟩
               have F5 := Lib.hid (CBW.out _ (F.out.trans (hc.mono fun _ _ h => h.elim)))
               clear hc F LN
               go_wp2_with fail
               go_ret
               exact ⟨rfl, F5.out⟩
             · have ST := Lib.hid (G.out.start_new h4)
               have h4' : ¬ (nb : Int) = 64 := by omega
               have h4b : ((nb : Int) == 64) = false := by rw [beq_eq_false_iff_ne]; exact h4'
               have nb32 : nb ≤ 32 ∧ 1 ≤ nb := by unfold Fnv.Pow at np; omega
               obtain ⟨nb1, nb2⟩ := nb32
               clear np nr h4
               go_wp2_with fail
               refine ST.out.mono ?_
               rintro e w4 ⟨rfl, k4, -⟩
               have K4 : Hid (GE wa.heap.size wa w4 a g (fun _ => False) (if 0 < nb then nb else 2 * nb) (if 0 < nb then 0 else 0) (decide (0 < nb)) K) := by
                 rw [if_pos (by omega), if_pos (by omega), decide_eq_true (by omega)]; exact k4
               clear k4 ST G
               go_wp2_with fail
               go_loopg [14] nb (fun q i wr => ∃ (k : Nat), i = .int .i64 ((k : Int) + 1) ∧ q = nb - k ∧ k ≤ nb ∧ Hid (GE wa.heap.size wa wr a g (fun _ => False) (if k < nb then nb else 2 * nb) (if k < nb then k else 0) (decide (k < nb)) K))
               case atStart => exact ⟨0, rfl, rfl, by omega, K4.out⟩
               case round =>
                 clear K4
                 obtain ⟨k, rfl, hg2, hk2, G⟩ := hrel
                 replace hg2 := Lib.hid hg2
                 by_cases h5 : k < nb
                 · have h5' : (k : Int) + 1 ≤ nb := by omega
                   have G' := G.out
                   rw [if_pos h5, if_pos h5, decide_eq_true h5] at G'
                   have ST := G'.step_on.2
                   clear G G'
                   by_cases h6 : k + 1 < nb
                   · have h6' : (k : Int) + 1 < nb := by omega
                     have ST' : Hid (Calls Try.prog 51 #[(.pointer (some ⟨g, 0, none⟩))] wr (GEnd wa.heap.size wa wr a g (fun _ => False) (if k + 1 < nb then nb else 2 * nb) (if k + 1 < nb then k + 1 else 0) (decide (k + 1 < nb)) K (.bool true))) := by rw [decide_eq_true h6] at ST ⊢; exact ST
                     clear ST
                     go_wp2_with fail
                     refine ST'.out.mono ?_
                     rintro e w7 ⟨rfl, k5, -⟩
                     obtain ⟨P, hP, AL, LN⟩ := k5.both
                     have K5 := Lib.hid k5
                     rw [hN.out] at LN
                     replace LN := Lib.hid LN
                     clear ST' k5 AL hP
                     go_wp2_with fail
                     refine LN.out.mono ?_
                     rintro e w8 ⟨rfl, hc⟩
                     have K6 := Lib.hid (K5.out.fresh hc)
                     obtain ⟨P, hP, AL, LN⟩ := K6.out.both
                     have PN : P.length = N := by rw [hP.length_eq]; exact hN.out
                     replace AL := Lib.hid AL
                     clear hc LN K5 hP
                     go_wp2_with fail
                     refine AL.out.mono ?_
                     rintro e w9 ⟨A9, c9, rfl, ho, hc⟩
                     have K7 := Lib.hid (K6.out.fresh hc)
                     clear hc ho AL K6
                     rw [PN]
                     go_wp2_with fail
                     go_roundg (nb - (k + 1))
                     case measure => have := hg2.out; omega
                     case rel => exact ⟨k + 1, by rw [Int.natCast_add]; rfl, rfl, by omega, K7.out⟩
                   · have h6' : ¬ (k : Int) + 1 < nb := by omega
                     have ST' : Hid (Calls Try.prog 51 #[(.pointer (some ⟨g, 0, none⟩))] wr (GEnd wa.heap.size wa wr a g (fun _ => False) (if k + 1 < nb then nb else 2 * nb) (if k + 1 < nb then k + 1 else 0) (decide (k + 1 < nb)) K (.bool false))) := by rw [decide_eq_false h6] at ST ⊢; exact ST
                     clear ST
                     go_wp2_with fail
                     refine ST'.out.mono ?_
                     rintro e w7 ⟨rfl, k5, -⟩
                     obtain ⟨P, hP, AL, LN⟩ := k5.both
                     have K5 := Lib.hid k5
                     rw [hN.out] at LN
                     replace LN := Lib.hid LN
                     clear ST' k5 AL hP
                     go_wp2_with fail
                     refine LN.out.mono ?_
                     rintro e w8 ⟨rfl, hc⟩
                     have K6 := Lib.hid (K5.out.fresh hc)
                     obtain ⟨P, hP, AL, LN⟩ := K6.out.both
                     have PN : P.length = N := by rw [hP.length_eq]; exact hN.out
                     replace AL := Lib.hid AL
                     clear hc LN K5 hP
                     go_wp2_with fail
                     refine AL.out.mono ?_
                     rintro e w9 ⟨A9, c9, rfl, ho, hc⟩
                     have K7 := Lib.hid (K6.out.fresh hc)
                     clear hc ho AL K6
                     rw [PN]
                     go_wp2_with fail
                     go_roundg (nb - (k + 1))
                     case measure => have := hg2.out; omega
                     case rel => exact ⟨k + 1, by rw [Int.natCast_add]; rfl, rfl, by omega, K7.out⟩
                 · have h5' : ¬ (k : Int) + 1 ≤ nb := by omega
                   obtain rfl : k = nb := by omega
                   have G' := G.out
                   rw [if_neg h5, if_neg h5, decide_eq_false h5] at G'
                   have SC := G'.state
                   rw [show ((2 * k : Nat) : Int) = 2 * (k : Int) by omega] at SC
                   replace SC := Lib.hid SC
                   replace G' := Lib.hid G'
                   clear G h5
                   go_wp2_with fail
                   refine SC.out.mono ?_
                   rintro e w7 ⟨rfl, hd⟩
                   have K7 := Lib.hid (G'.out.fresh (hd.chg _))
                   clear hd SC G'
                   go_wp2_with fail
                   go_roundg (T - (j + 1))
                   case measure => have := hg.out; omega
                   case rel => exact ⟨j + 1, 2 * k, by rw [Int.natCast_mul]; rfl, rfl, rfl, by omega, K7.out⟩
           · have h3' : ¬ (j : Int) < T := by omega
             obtain ⟨P, hP, AL, LN⟩ := G.out.both
             have PN : P.length = N := by rw [hP.length_eq]; exact hN.out
             have ND := Lib.hid ((hP.nodup_iff).2 G.out.nodup)
             have AL' : Hid (AEnd wr P = AEnd wr P) := rfl
             replace AL := Lib.hid AL
             have PL := pls_length P
             have PG := Lib.hid (fun i (h : i < P.length) => pls_getD P h)
             rw [PN] at PL PG
             replace PL := Lib.hid PL
             replace PN := Lib.hid PN
             clear LN hP np nr AL'
             go_wp2_with fail
             refine AL.out.mono ?_
             rintro e w4 ⟨A4, c4, rfl, ho, hc⟩
             have K4 := Lib.hid (G.out.fresh hc)
             have O4 := Lib.hid ho
             rw [PN.out] at O4 ⊢
             clear ho hc AL G
             go_wp2_with fail
             go_loopg [19] N (fun q i wr => ∃ (i0 : Nat), i = .int .i64 i0 ∧ q = N - i0 ∧ i0 ≤ N ∧ Hid (GE wa.heap.size wa wr a g (fun _ => False) nb 0 false K) ∧ Hid (Sl wr .i64 A4 (pls P)))
             case atStart => exact ⟨0, rfl, rfl, by omega, K4.out, O4.out.sl⟩
             case round =>
               clear K4 O4
               obtain ⟨i0, rfl, hg2, hi0, K5, O5⟩ := hrel
               replace hg2 := Lib.hid hg2
               by_cases h4 : i0 < N
               · have h4' : (i0 : Int) < N := by omega
                 go_wp2_with fail
                 go_loopg [20] i0 (fun q i wr => ∃ (i1 : Nat), i = .int .i64 i1 ∧ q = i0 - i1 ∧ i1 ≤ i0 ∧ Hid (GE wa.heap.size wa wr a g (fun _ => False) nb 0 false K) ∧ Hid (Sl wr .i64 A4 (pls P)))
                 case atStart => exact ⟨0, rfl, rfl, by omega, K5.out, O5.out⟩
                 case round =>
                   clear K5 O5
                   obtain ⟨i1, rfl, hg3, hi1, K6, O6⟩ := hrel
                   replace hg3 := Lib.hid hg3
                   by_cases h5 : i1 < i0
                   · have h5' : (i1 : Int) < i0 := by omega
                     have h5'' : (i1 : Int) < N := by omega
                     obtain ⟨ad, rfl, z0⟩ := O6.out i0 (by rw [PL.out]; exact h4)
                     obtain ⟨ad', e', z1⟩ := O6.out i1 (by rw [PL.out]; omega)
                     cases e'
                     rw [PG.out i0 h4] at z0
                     rw [PG.out i1 (by omega)] at z1
                     have ne := nodup_at ND.out h5 (by rw [PN.out]; exact h4)
                     generalize P.getD i0 0 = y0 at z0 ne
                     generalize P.getD i1 0 = y1 at z1 ne
                     have nq : (64 * (y0 : Int) == 64 * (y1 : Int)) = false := by rw [beq_eq_false_iff_ne]; omega
                     have nq2 : ¬ (64 * (y0 : Int) = 64 * (y1 : Int)) := by omega
                     have nq3 : ¬ ((y0 : Int) = (y1 : Int)) := by omega
                     clear ne
                     go_wp2_with fail
                     go_quiet (fail)
                     have cq := Chg.drewN (fun _ => False) wr nq
                     have K7 := Lib.hid (K6.out.fresh cq)
                     have O7 := Lib.hid (O6.out.chg cq fun _ _ => id)
                     clear cq z0 z1 K6 O6
                     go_wp2_with fail
                     go_roundg (i0 - (i1 + 1))
                     case measure => have := hg3.out; omega
                     case rel => exact ⟨i1 + 1, rfl, rfl, by omega, K7.out, O7.out⟩
                   · have h5' : ¬ (i1 : Int) < i0 := by omega
                     go_wp2_with fail
                     go_roundg (N - (i0 + 1))
                     case measure => have := hg2.out; omega
                     case rel => exact ⟨i0 + 1, rfl, rfl, by omega, K6.out, O6.out⟩
               · have h4' : ¬ (i0 : Int) < N := by omega
                 have F5 := Lib.hid (CBW.out _ K5.out.chg)
                 clear K5 O5
                 go_wp2_with fail
                 go_ret
                 exact ⟨rfl, F5.out⟩)
end Go.Proofs.Ytolpjgpimholcaa.Grow

