import Derived.Test.YtmffdlebahdihaaGu
import Derived.Test.YtmffdlebahdihaaGc
import Derived.Test.YtmffdlebahdihaaGd
import Derived.Deep.DeepCutAuto
import Derived.Deep.CutRange
import Derived.Deep.CutBlock
/- What SlabsApart does: used chunks, and how many. -/
namespace Go.Proofs.Ytmffdlebahdihaa.Slab
open Go Go.RowKit Go.Shelf Go.Proofs.Ytmffdlebahdihaa.Mem Go.Proofs.Ytmffdlebahdihaa.CodecPure Go.Proofs.Ytmffdlebahdihaa.ArenaPure Go.Proofs.Ytmffdlebahdihaa.Codec Go.Proofs.Ytmffdlebahdihaa.Arena Go.Proofs.Ytmffdlebahdihaa.Item
set_option linter.unusedVariables false
set_option maxRecDepth 100000
variable {B base b rg r7 : Nat} {w0 w w' : World} {a : Ar} {h : Sh} {s s' t : St} {T : List Nat} {L M : Nat → List Nat} {c d x p : Nat} {E : Nat → Prop} {v : Value} {e : Ending} {own : List Int}
def per (T : List Nat) (c : Nat) : Nat := 1024 / tz T c
theorem sub_len : ∀ (l m : List Nat), l.Nodup → (∀ x ∈ l, x ∈ m) → l.length ≤ m.length
  | [], m, _, _ => Nat.zero_le _
  | x :: l, m, hn, hs => by
    have hx := hs x List.mem_cons_self
    have hn2 := List.nodup_cons.1 hn
    have := sub_len l (m.erase x) hn2.2 fun y hy => (List.mem_erase_of_ne (fun (e : y = x) => hn2.1 (by rw [← e]; exact hy))).2 (hs y (List.mem_cons_of_mem _ hy))
    rw [List.length_erase_of_mem hx] at this
    have := List.length_pos_of_mem hx
    rw [List.length_cons]
    omega
theorem pgs_set {own : List Int} (hp : p < own.length) (v : Int) (c : Nat) : pgs (own.set p v) c + (if own.getD p 0 = (c : Int) then 1 else 0) = pgs own c + if v = (c : Int) then 1 else 0 := by
  unfold pgs
  rw [List.countP_set hp, List.getD_eq_getElem?_getD, List.getElem?_eq_getElem hp]
  show _ - (if (own[p] == (c : Int)) = true then 1 else 0) + (if (v == (c : Int)) = true then 1 else 0) + (if own[p] = (c : Int) then 1 else 0) = _ + if v = (c : Int) then 1 else 0
  simp only [beq_iff_eq]
  by_cases e : own[p] = (c : Int)
  · rw [if_pos e]
    have : 0 < own.countP fun x => x == (c : Int) := List.countP_pos_iff.2 ⟨own[p], List.getElem_mem hp, by rw [e]; exact beq_self_eq_true _⟩
    omega
  · rw [if_neg e]
    omega
theorem filter_two (q : Nat → Bool) : ∀ l : List Nat, l.length = (l.filter q).length + (l.filter fun x => !q x).length
  | [] => rfl
  | x :: l => by
    have := filter_two q l
    rw [List.filter_cons, List.filter_cons, List.length_cons]
    cases q x <;> simp <;> omega
theorem filter_page (k : SLI s T L) (hc : c < T.length) (hp : p < s.own.length) (ho : s.own.getD p 0 = (c : Int)) (hb : ∀ x ∈ chl T c p, x ∈ L c) : ((L c).filter (nf fun y => decide (y / 1024 = p))).length + per T c = (L c).length := by
  have e1 := filter_two (fun y => decide (y / 1024 = p)) (L c)
  have e2 : ((L c).filter fun y => decide (y / 1024 = p)).length = per T c := by
    have ts := k.ts c hc
    refine Nat.le_antisymm ?_ ?_
    · have := sub_len ((L c).filter fun y => decide (y / 1024 = p)) (chl T c p) ((k.nd c hc).sublist List.filter_sublist) fun x hx => by
        obtain ⟨h1, h2⟩ := List.mem_filter.1 hx
        have := chl_of (k.ch c hc x h1) (by omega)
        rw [show x / 1024 = p from by simpa using h2] at this
        exact this
      rw [chl_len] at this
      exact this
    · have := sub_len (chl T c p) ((L c).filter fun y => decide (y / 1024 = p)) (chl_nodup T c p) fun x hx => List.mem_filter.2 ⟨hb x hx, decide_eq_true (chl_page hx)⟩
      rw [chl_len] at this
      exact this
  have e3 : (L c).filter (nf fun y => decide (y / 1024 = p)) = (L c).filter fun y => !decide (y / 1024 = p) := rfl
  rw [e3]
  omega
/-- as many chunks are used as before -/
def Bal (T : List Nat) (own : List Int) (L : Nat → List Nat) (own' : List Int) (M : Nat → List Nat) : Prop := ∀ d, d < T.length → (L d).length + pgs own' d * per T d = (M d).length + pgs own d * per T d
def RelEnd (B base : Nat) (w0 w : World) (a : Ar) (h : Sh) (b rg r7 : Nat) (T : List Nat) (s : St) (L : Nat → List Nat) (e : Ending) (w' : World) : Prop :=
  ∃ (n : Int) (t : St) (M : Nat → List Nat), e = .returned (.int .i64 n) ∧ BX B base w0 w' a h b rg r7 T t M ∧ Fr T s L t M (fun _ => False) ∧ Bal T s.own L t.own M ∧ Chg (S7 a h) w w'
theorem BX.rel (k : BX B base w0 w a h b rg r7 T s L) {n : Int} (hx : XEnd B w0 w a h T s L own M (fun _ => False) (.int .i64 n) e w') (hb : Bal T s.own L own M) : RelEnd B base w0 w a h b rg r7 T s L e w' := by
  obtain ⟨h1, t, h2, h3, h4, h5⟩ := k.act1 hx
  exact ⟨n, t, M, h1, h2, h4, by rw [h3]; exact hb, h5⟩
theorem BX.release2 (k : BX B base w0 w a h b rg r7 T s L) (y : Int) : Calls Try.prog 15 #[(.pointer (some ⟨h.b, 0, none⟩)), (.int .i64 y)] w (RelEnd B base w0 w a h b rg r7 T s L) := by
  by_cases hn : y < 0 ∨ (s.own.length : Int) ≤ y
  · exact (k.sx.release_no y hn _).mono fun e w' hx => k.rel hx fun _ _ => rfl
  · obtain ⟨p, rfl⟩ := Int.eq_ofNat_of_zero_le (show 0 ≤ y by omega)
    have hp : p < s.own.length := by omega
    by_cases ho : s.own.getD p 0 < 0
    · exact (k.sx.release_free hp ho _).mono fun e w' hx => k.rel hx fun _ _ => rfl
    · obtain ⟨c, hc⟩ := Int.eq_ofNat_of_zero_le (show 0 ≤ s.own.getD p 0 by omega)
      have hcl : c < T.length := by have := k.sx.inv.cls p hp; omega
      by_cases hb : ∀ x ∈ chl T c p, x ∈ L c
      · refine (k.sx.release_ok hcl hp hc hb).mono fun e w' hx => k.rel hx fun d hd => ?_
        have ps := pgs_set hp (-1) d
        rw [if_neg (by omega : ¬ (-1 : Int) = (d : Int)), hc] at ps
        unfold noPg
        by_cases e : d = c
        · subst e
          have fp := filter_page k.sx.inv hd hp hc hb
          rw [upN_at]
          rw [if_pos rfl] at ps
          have : pgs s.own d = pgs (s.own.set p (-1)) d + 1 := by omega
          rw [this, Nat.add_mul, Nat.one_mul]
          omega
        · rw [upN_ne _ _ e]
          rw [if_neg (by omega)] at ps
          have : pgs s.own d = pgs (s.own.set p (-1)) d := by omega
          rw [this]
      · exact (k.sx.release_busy hcl hp hc hb _).mono fun e w' hx => k.rel hx fun _ _ => rfl
/-- a chunk allocated: it was not used; and one more is used of its class -/
def New2 (B base : Nat) (w0 w : World) (a : Ar) (h : Sh) (b rg r7 : Nat) (T : List Nat) (s : St) (L : Nat → List Nat) (c : Nat) (e : Ending) (w' : World) : Prop :=
  ∃ (x : Nat) (t : St) (M : Nat → List Nat), e = .returned (.tuple #[.int .i64 (x : Int), .int .i64 0]) ∧ BX B base w0 w' a h b rg r7 T t M ∧ Fr T s L t M (fun _ => False) ∧ Chk t.own T c x ∧ x ∉ M c ∧
    (∀ d, d < T.length → ∀ y, Chk s.own T d y → y ∉ L d → y ≠ x) ∧ (∀ d, d < T.length → (L d).length + pgs t.own d * per T d = (M d).length + (if d = c then 1 else 0) + pgs s.own d * per T d) ∧ Chg (S7 a h) w w'
theorem BX.alloc2 (k : BX B base w0 w a h b rg r7 T s L) (hc : c < T.length) : Calls Try.prog 16 #[(.pointer (some ⟨h.b, 0, none⟩)), (.int .i64 ((c : Int)))] w fun e w' => New2 B base w0 w a h b rg r7 T s L c e w' ∨ FullEnd B base w0 w a h b rg r7 T s L c e w' := by
  cases e : L c with
  | cons x l =>
    refine (k.sx.alloc_pop hc e).mono fun e' w' hx => .inl ?_
    obtain ⟨h1, t, h2, h3, h4, h5, h6, h7, h8⟩ := k.act2 hx
    refine ⟨x, t, _, h1, h2, h4, by rw [h3]; exact h6, h7, fun d hd y hy hn q => ?_, fun d hd => ?_, h8⟩
    · subst q
      have hm : y ∈ L c := by rw [e]; exact List.mem_cons_self
      have := k.sx.inv.not_other hy hc hm
      subst this
      exact hn hm
    · rw [h3]
      by_cases q : d = c
      · subst q
        rw [upN_at, e, if_pos rfl, List.length_cons]
      · rw [upN_ne _ _ q, if_neg q, Nat.add_zero]
  | nil =>
    by_cases hf : first s.own < s.own.length
    · refine (k.sx.alloc_fresh hc e hf).mono fun e' w' hx => .inl ?_
      obtain ⟨h1, t, h2, h3, h4, h5, h6, h7, h8⟩ := k.act2 hx
      refine ⟨_, t, _, h1, h2, h4, by rw [h3]; exact h6, h7, fun d hd y hy hn q => ?_, fun d hd => ?_, h8⟩
      · have := k.sx.inv.not_free (first_neg s.own hf) hy
        rw [q] at this
        omega
      · have ps := pgs_set hf (c : Int) d
        rw [if_neg (by have := first_neg s.own hf; omega)] at ps
        have ts := k.sx.inv.ts c hc
        rw [h3]
        by_cases q : d = c
        · subst q
          obtain ⟨l, hl⟩ := chl_pos (p := first s.own) ts.1 ts.2
          have hlen := chl_len T d (first s.own)
          rw [hl, List.length_cons] at hlen
          rw [if_pos rfl, Nat.add_zero] at ps
          rw [upN_at, e, if_pos rfl, ps, hl, Nat.add_mul, Nat.one_mul]
          show [].length + _ = l.length + 1 + _
          unfold per
          rw [List.length_nil]
          omega
        · rw [if_neg (by omega), Nat.add_zero, Nat.add_zero] at ps
          rw [upN_ne _ _ q, if_neg q, ps, Nat.add_zero]
    · refine (k.sx.alloc_full hc e hf (fun _ => False)).mono fun e' w' hx => .inr ?_
      obtain ⟨h1, t, h2, h3, h4, h5⟩ := k.act1 hx
      exact ⟨h1, e, hf, t, h2, h3, h4, h5⟩
theorem free_none (s : St) (hf : ¬ first s.own < s.own.length) : free s = 0 := by
  unfold free
  rw [List.countP_eq_zero]
  intro x hx hd
  exact hf (List.findIdx_lt_length_of_exists ⟨x, hx, hd⟩)
def T3 : List Nat := [64, 200, 1024]
/-- the used chunks with their classes -/
structure AI (B base : Nat) (w0 w : World) (a : Ar) (h : Sh) (b rg r7 : Nat) (U : List (Nat × Nat)) : Prop where
  ex : ∃ s L, BX B base w0 w a h b rg r7 T3 s L ∧ (∀ u ∈ U, u.2 < 3 ∧ Chk s.own T3 u.2 u.1 ∧ u.1 ∉ L u.2) ∧ (U.map (·.1)).Nodup ∧ ∀ c, c < 3 → U.countP (fun u => u.2 == c) + (L c).length = pgs s.own c * per T3 c
variable {U : List (Nat × Nat)} {u : Nat × Nat}
theorem AI.f1 (k : AI B base w0 w a h b rg r7 U) : w.cell? ⟨b, 1, none⟩ = some (.pointer (some ⟨h.b, 0, none⟩)) := by obtain ⟨s, L, k, -⟩ := k.ex; exact k.f1
theorem AI.f0 (k : AI B base w0 w a h b rg r7 U) : w.cell? ⟨b, 0, none⟩ = some (.pointer (some ⟨a.g, 0, none⟩)) := by obtain ⟨s, L, k, -⟩ := k.ex; exact k.f0
theorem AI.bx (k : AI B base w0 w a h b rg r7 U) : base ≤ w.heap.size ∧ Chg (fun x => B ≤ x) w0 w ∧ ∀ x, S7 a h x → x < base := by obtain ⟨s, L, k, -⟩ := k.ex; exact ⟨k.sz, k.sx.chg, s7_lt k⟩
theorem AI.skip (k : AI B base w0 w a h b rg r7 U) (hc : Chg (fun x => base ≤ x) w w') : AI B base w0 w' a h b rg r7 U := by obtain ⟨s, L, k, h1⟩ := k.ex; exact ⟨s, L, k.skip hc, h1⟩
theorem AI.begin (k : BX B base w0 w a h b rg r7 T3 (new p) nos) : AI B base w0 w a h b rg r7 [] := by
  refine ⟨_, _, k, fun u hu => (by cases hu), List.nodup_nil, fun c hc => ?_⟩
  have : pgs (new p).own c = 0 := by
    unfold pgs
    rw [new_own, List.countP_replicate, if_neg (by rw [beq_iff_eq]; omega)]
  rw [this, Nat.zero_mul]; rfl
/-- its class and that it is used -/
theorem AI.lt (k : AI B base w0 w a h b rg r7 U) (hu : u ∈ U) : u.2 < 3 ∧ u.1 < 32768 := by
  obtain ⟨s, L, k, h1, -⟩ := k.ex
  exact ⟨(h1 u hu).1, k.sx.inv.lt (h1 u hu).2.1⟩
theorem AI.class (k : AI B base w0 w a h b rg r7 U) (hu : u ∈ U) : Calls Try.prog 19 #[(.pointer (some ⟨h.b, 0, none⟩)), (.int .i64 ((u.1 : Int)))] w (Ans2 w (u.2 : Int) 0) := by
  obtain ⟨s, L, k, h1, -⟩ := k.ex
  exact class_ok k.sx.wb k.sx.inv (h1 u hu).1 (h1 u hu).2.1
theorem AI.isfree (k : AI B base w0 w a h b rg r7 U) (hu : u ∈ U) : Calls Try.prog 20 #[(.pointer (some ⟨h.b, 0, none⟩)), (.int .i64 ((u.1 : Int)))] w (FrEnd w false) := by
  obtain ⟨s, L, k, h1, -⟩ := k.ex
  have P := isfree_ok k.sx.wb k.sx.inv (h1 u hu).1 (h1 u hu).2.1
  rw [decide_eq_false (h1 u hu).2.2] at P
  exact P
theorem AI.counts (k : AI B base w0 w a h b rg r7 U) (hc : c < 3) : ∃ n m : Nat, n + U.countP (fun u => u.2 == c) = m * per T3 c ∧ n ≤ 32768 ∧ m ≤ 32 ∧ Calls Try.prog 17 #[(.pointer (some ⟨h.b, 0, none⟩)), (.int .i64 ((c : Int)))] w (CnEnd w (n : Int) ((U.countP (fun u => u.2 == c) : Nat) : Int) (m : Int)) := by
  obtain ⟨s, L, k, -, -, h3⟩ := k.ex
  have P := counts_calls k.sx.wb k.sx.inv (c := c) hc
  have e := h3 c hc
  unfold per at e
  have e2 : ((pgs s.own c * (1024 / tz T3 c) : Nat) : Int) - ((L c).length : Int) = ((U.countP (fun u => u.2 == c) : Nat) : Int) := by omega
  rw [e2] at P
  exact ⟨_, _, by unfold per; omega, k.sx.inv.len hc, Nat.le_trans (pgs_le _ _) k.sx.inv.ok.high, P⟩
theorem AI.apart (k : AI B base w0 w a h b rg r7 (U ++ [u])) {y : Nat × Nat} (hy : y ∈ U) : u.1 + tz T3 u.2 ≤ y.1 ∨ y.1 + tz T3 y.2 ≤ u.1 := by
  obtain ⟨s, L, k, h1, h2, -⟩ := k.ex
  have hu := h1 u (by simp)
  have hy2 := h1 y (by simp [hy])
  have t1 := k.sx.inv.ts u.2 hu.1
  have t2 := k.sx.inv.ts y.2 hy2.1
  refine chk_apart hu.2.1 hy2.2.1 (by omega) (by omega) fun e => ?_
  rw [List.map_append] at h2
  exact (List.nodup_append.1 h2).2.2 y.1 (List.mem_map.2 ⟨y, hy, rfl⟩) u.1 (by simp) e.symm
theorem AI.release (k : AI B base w0 w a h b rg r7 U) (y : Int) : Calls Try.prog 15 #[(.pointer (some ⟨h.b, 0, none⟩)), (.int .i64 y)] w fun e w' => (∃ v, e = .returned v) ∧ AI B base w0 w' a h b rg r7 U ∧ Chg (S7 a h) w w' := by
  obtain ⟨s, L, k, h1, h2, h3⟩ := k.ex
  refine (k.release2 y).mono fun e w' ⟨n, t, M, g1, g2, g3, g4, g5⟩ => ⟨⟨_, g1⟩, ⟨t, M, g2, fun u hu => ?_, h2, fun c hc => ?_⟩, g5⟩
  · obtain ⟨a1, a2, a3⟩ := h1 u hu
    obtain ⟨b1, b2, -⟩ := g3 u.2 a1 u.1 a2 a3 id
    exact ⟨a1, b1, b2⟩
  · have := h3 c hc
    have := g4 c hc
    omega
theorem AI.alloc (k : AI B base w0 w a h b rg r7 U) (hc : c < 3) : Calls Try.prog 16 #[(.pointer (some ⟨h.b, 0, none⟩)), (.int .i64 ((c : Int)))] w fun e w' => (∃ x : Nat, e = .returned (.tuple #[.int .i64 (x : Int), .int .i64 0]) ∧ AI B base w0 w' a h b rg r7 (U ++ [(x, c)]) ∧ Chg (S7 a h) w w') ∨
    (e = .returned (.tuple #[.int .i64 0, .int .i64 2]) ∧ AI B base w0 w' a h b rg r7 U ∧ Chg (S7 a h) w w' ∧ (∃ m p : Int, Calls Try.prog 17 #[(.pointer (some ⟨h.b, 0, none⟩)), (.int .i64 ((c : Int)))] w' (CnEnd w' 0 m p)) ∧ ∀ W, Chg (fun _ => False) w' W → Calls Try.prog 18 #[(.pointer (some ⟨a.g, 0, none⟩))] W fun e w'' => e = .returned (.int .i64 0) ∧ W = w'') := by
  obtain ⟨s, L, k, h1, h2, h3⟩ := k.ex
  refine (k.alloc2 (c := c) hc).mono fun e w' hx => ?_
  rcases hx with ⟨x, t, M, g1, g2, g3, g4, g5, g6, g7, g8⟩ | ⟨g1, g2, g3, t, g4, g5, g6, g7⟩
  · refine .inl ⟨x, g1, ⟨t, M, g2, fun u hu => ?_, ?_, fun d hd => ?_⟩, g8⟩
    · rcases List.mem_append.1 hu with hu | hu
      · obtain ⟨a1, a2, a3⟩ := h1 u hu
        obtain ⟨b1, b2, -⟩ := g3 u.2 a1 u.1 a2 a3 id
        exact ⟨a1, b1, b2⟩
      · rw [List.mem_singleton.1 hu]; exact ⟨hc, g4, g5⟩
    · rw [List.map_append]
      refine List.nodup_append.2 ⟨h2, by simp, fun y hy z hz e => ?_⟩
      obtain ⟨u, hu, rfl⟩ := List.mem_map.1 hy
      obtain ⟨a1, a2, a3⟩ := h1 u hu
      have : z = x := by simpa using hz
      exact g6 u.2 a1 u.1 a2 a3 (by rw [e, this])
    · have e1 := h3 d hd
      have e2 := g7 d hd
      rw [List.countP_append, List.countP_singleton]
      show _ + (if (c == d) = true then 1 else 0) + _ = _
      by_cases q : d = c
      · subst q
        rw [if_pos rfl] at e2
        rw [if_pos (beq_self_eq_true _)]
        omega
      · rw [if_neg q] at e2
        rw [if_neg (by rw [beq_iff_eq]; exact fun e => q e.symm)]
        omega
  · have u2 : AI B base w0 w' a h b rg r7 U := ⟨t, L, g4, fun u hu => by
      obtain ⟨a1, a2, a3⟩ := h1 u hu
      rw [g5]; exact ⟨a1, a2, a3⟩, h2, fun d hd => by rw [g5]; exact h3 d hd⟩
    have P := counts_calls g4.sx.wb g4.sx.inv (c := c) hc
    rw [g2] at P
    refine .inr ⟨g1, u2, g7, ⟨_, _, P⟩, fun W hW => ?_⟩
    have F := free_calls (g4.fresh hW).sx.wb.lies
    rw [free_none t (by rw [g5]; exact g3)] at F
    exact F
theorem AI.free (k : AI B base w0 w a h b rg r7 U) {i : Nat} (hi : i < U.length) : Calls Try.prog 14 #[(.pointer (some ⟨h.b, 0, none⟩)), (.int .i64 (((U[i]).1 : Int)))] w fun e w' => e = .returned (.int .i64 0) ∧ AI B base w0 w' a h b rg r7 (U.take i ++ U.drop (i + 1)) ∧ Chg (S7 a h) w w' := by
  obtain ⟨s, L, k, h1, h2, h3⟩ := k.ex
  have hu := List.getElem_mem hi
  have sp : U = U.take i ++ U[i] :: U.drop (i + 1) := by rw [← List.drop_eq_getElem_cons hi, List.take_append_drop]
  obtain ⟨a1, a2, a3⟩ := h1 _ hu
  generalize U[i] = u at *
  refine (k.sx.free_ok (c := u.2) (x := u.1) a1 a2 a3).mono fun e w' hx => ?_
  obtain ⟨g1, t, g2, g3, g4, g5⟩ := k.act1 hx
  have nd := h2
  rw [sp, List.map_append, List.map_cons] at nd
  have nd2 := List.nodup_append.1 nd
  have nd3 := List.nodup_cons.1 nd2.2.1
  refine ⟨g1, ⟨t, _, g2, fun y hy => ?_, ?_, fun c hc => ?_⟩, g5⟩
  · have hyU : y ∈ U := by
      rw [sp]
      rcases List.mem_append.1 hy with hy | hy
      · exact List.mem_append_left _ hy
      · exact List.mem_append_right _ (List.mem_cons_of_mem _ hy)
    have ne : y.1 ≠ u.1 := by
      rcases List.mem_append.1 hy with hy | hy
      · exact nd2.2.2 y.1 (List.mem_map.2 ⟨y, hy, rfl⟩) u.1 List.mem_cons_self
      · exact fun e => nd3.1 (e ▸ List.mem_map.2 ⟨y, hy, rfl⟩)
    obtain ⟨b1, b2, b3⟩ := h1 y hyU
    obtain ⟨c1, c2, -⟩ := g4 y.2 b1 y.1 b2 b3 ne
    exact ⟨b1, c1, c2⟩
  · rw [List.map_append]
    exact List.nodup_append.2 ⟨nd2.1, nd3.2, fun x hx y hy => nd2.2.2 x hx y (List.mem_cons_of_mem _ hy)⟩
  · have e1 := h3 c hc
    rw [sp, List.countP_append, List.countP_cons] at e1
    rw [g3, List.countP_append]
    by_cases q : c = u.2
    · subst q
      rw [if_pos (beq_self_eq_true _)] at e1
      rw [upN_at, List.length_cons]
      omega
    · rw [if_neg (by rw [beq_iff_eq]; exact fun e => q e.symm)] at e1
      rw [upN_ne _ _ q]
      omega
end Go.Proofs.Ytmffdlebahdihaa.Slab

/- The walk of SlabsApart. -/
namespace Go.Proofs.Ytmffdlebahdihaa.Slab
open Go Go.RowKit Go.Shelf Go.Proofs.Ytmffdlebahdihaa.Mem Go.Proofs.Ytmffdlebahdihaa.CodecPure Go.Proofs.Ytmffdlebahdihaa.ArenaPure Go.Proofs.Ytmffdlebahdihaa.Codec Go.Proofs.Ytmffdlebahdihaa.Arena Go.Proofs.Ytmffdlebahdihaa.Item
set_option linter.unusedVariables false
set_option maxRecDepth 100000
section
variable {B base b rg r7 : Nat} {w0 w w' : World} {a : Ar} {h : Sh} {s s' t : St} {T : List Nat} {L M : Nat → List Nat} {c d x p : Nat} {E : Nat → Prop} {v v9 v10 : Value} {e : Ending} {U : List (Nat × Nat)}
def u9 (U : List (Nat × Nat)) : List Int := Ti (U.map (·.1))
def u10 (U : List (Nat × Nat)) : List Int := Ti (U.map (·.2))
theorem u9_len (U : List (Nat × Nat)) : (u9 U).length = U.length := by unfold u9; rw [ti_len, List.length_map]
theorem u10_len (U : List (Nat × Nat)) : (u10 U).length = U.length := by unfold u10; rw [ti_len, List.length_map]
theorem u9_at {i : Nat} (hi : i < U.length) : (u9 U).getD i 0 = ((U[i]).1 : Int) := by
  unfold u9
  rw [ti_at]
  unfold tz
  rw [List.getD_eq_getElem?_getD, List.getElem?_map, List.getElem?_eq_getElem hi]; rfl
theorem u10_at {i : Nat} (hi : i < U.length) : (u10 U).getD i 0 = ((U[i]).2 : Int) := by
  unfold u10
  rw [ti_at]
  unfold tz
  rw [List.getD_eq_getElem?_getD, List.getElem?_map, List.getElem?_eq_getElem hi]; rfl
theorem u9_app (U : List (Nat × Nat)) (u : Nat × Nat) : u9 (U ++ [u]) = u9 U ++ [(u.1 : Int)] := by unfold u9; rw [List.map_append]; exact ti_app _ _
theorem u10_app (U : List (Nat × Nat)) (u : Nat × Nat) : u10 (U ++ [u]) = u10 U ++ [(u.2 : Int)] := by unfold u10; rw [List.map_append]; exact ti_app _ _
theorem u9_cut (U : List (Nat × Nat)) (i : Nat) : u9 (U.take i ++ U.drop (i + 1)) = (u9 U).take i ++ (u9 U).drop (i + 1) := by unfold u9 Ti; rw [List.map_append, List.map_append, List.map_take, List.map_take, List.map_drop, List.map_drop]
theorem u10_cut (U : List (Nat × Nat)) (i : Nat) : u10 (U.take i ++ U.drop (i + 1)) = (u10 U).take i ++ (u10 U).drop (i + 1) := by unfold u10 Ti; rw [List.map_append, List.map_append, List.map_take, List.map_take, List.map_drop, List.map_drop]
theorem row_keep7 {base base' : Nat} {v : Value} {R : List Int} {ty : TypeId} (hs : ∀ x, S7 a h x → x < base) (hb : base ≤ base') (ho : Mem.Own w base' ty .i64 v R) (hc : Chg (S7 a h) w w') : Mem.Own w' base' ty .i64 v R :=
  ho.chg hc fun g hg e => by
    have := hs g e
    have := (World.ownsRow.lt ho g hg).1
    omega
/-- both rows -/
structure RU (base : Nat) (v9 v10 : Value) (U : List (Nat × Nat)) (w : World) : Prop where
  o9 : Mem.Own w base 3 .i64 v9 (u9 U)
  o10 : Mem.Own w base 3 .i64 v10 (u10 U)
  ap : Apart v9 v10
theorem RU.keep (k : RU base v9 v10 U w) (hs : ∀ x, S7 a h x → x < base) (hc : Chg (S7 a h) w w') : RU base v9 v10 U w' := ⟨row_keep7 hs (Nat.le_refl _) k.o9 hc, row_keep7 hs (Nat.le_refl _) k.o10 hc, k.ap⟩
theorem RU.fresh (k : RU base v9 v10 U w) (hc : Chg (fun _ => False) w w') : RU base v9 v10 U w' := ⟨k.o9.chg hc fun _ _ => id, k.o10.chg hc fun _ _ => id, k.ap⟩
/-- between the two appends: the first row has one more -/
structure RV (base : Nat) (v9 v10 : Value) (U : List (Nat × Nat)) (u : Nat × Nat) (w : World) : Prop where
  o9 : Mem.Own w base 3 .i64 v9 (u9 (U ++ [u]))
  o10 : Mem.Own w base 3 .i64 v10 (u10 U)
  ap : Apart v9 v10
theorem RU.app9 {x cc un n' c' : Nat} {A' : Option Addr} {cs : Array Value} (k : RU base v9 v10 U w) (hun : U.length = un) (hn : n' = (u9 U).length + 1) (ho : Mem.Own w' base 3 .i64 (.slice A' n' c') (u9 U ++ [(x : Int)])) (hc : Chg (fun y => v9.ownBlock = some y) (w.alloc (.cells cs 3)) w')
    (hat : (Value.slice A' n' c').ownBlock = v9.ownBlock ∨ (Value.slice A' n' c').ownBlock = some (w.alloc (.cells cs 3)).heap.size) : RV base (.slice A' n' c') v10 U (x, cc) w' := by
  have a1 : Chg (fun _ => False) w (w.alloc (.cells cs 3)) := Chg.alloc _ _ _
  refine ⟨by rw [u9_app]; exact ho, (k.o10.chg a1 fun _ _ => id).keep hc k.ap, k.ap.grown hat fun g hg => ?_⟩
  have := (World.ownsRow.lt k.o10 g hg).2
  have := a1.size
  omega
theorem RV.app10 {x cc n' c' : Nat} {A' : Option Addr} {cs : Array Value} (k : RV base v9 v10 U (x, cc) w) (ho : Mem.Own w' base 3 .i64 (.slice A' n' c') (u10 U ++ [(cc : Int)])) (hc : Chg (fun y => v10.ownBlock = some y) (w.alloc (.cells cs 3)) w')
    (hat : (Value.slice A' n' c').ownBlock = v10.ownBlock ∨ (Value.slice A' n' c').ownBlock = some (w.alloc (.cells cs 3)).heap.size) : RU base v9 (.slice A' n' c') (U ++ [(x, cc)]) w' := by
  have a1 : Chg (fun _ => False) w (w.alloc (.cells cs 3)) := Chg.alloc _ _ _
  refine ⟨(k.o9.chg a1 fun _ _ => id).keep hc k.ap.symm, by rw [u10_app]; exact ho, (k.ap.symm.grown hat fun g hg => ?_).symm⟩
  have := (World.ownsRow.lt k.o9 g hg).2
  have := a1.size
  omega
theorem elem_int7 : Try.prog.elem 25 = 3 := by kernel_rfl
theorem size_elem7 (W : World) : (Go.sizeOf (Try.prog.elem 25)).run Try.prog W = .ok 1 W := by rw [elem_int7]; rfl
theorem und_elem7 : Try.prog.underlying 25 = some (.slice (Try.prog.elem 25)) := by rw [elem_int7]; exact Try.underlying25
theorem t3_fact7 : ∀ c, c < 3 → 64 ≤ tz T3 c ∧ tz T3 c ≤ 1024 ∧ per T3 c ≤ 16 ∧ (1024 : Int) / (tz T3 c : Int) = (per T3 c : Int) ∧ (1024 : Int).tdiv (tz T3 c : Int) = (per T3 c : Int) := by decide +kernel
end
structure Wr (P : Prop) : Prop where
  out : P
set_option maxHeartbeats 16000000 in
/-- the walk, with two of its pieces left out -/
def apart_parts : (R1 : Prop) ×' (R2 : Prop) ×' (Wr R1 → Wr R2 → ∀ (n0 : Int) (A : Option Addr) (c : Nat) (l : List (List Int)) (w : World) (wf0 : (Lit.int .i64 n0).wf = true) (hl : SRow w [.i64, .i64, .i64] A c l),
    Calls Try.prog 3 #[(.int .i64 n0), .slice A l.length c] w fun e w' => e = .returned (.bool true) ∧ Below w.heap.size w w') :=
  ⟨_, _, fun hR1 hR2 n0 A c l w wf0 hl => by
    have hlm : l.length ≤ 9223372036854775807 := Nat.le_trans hl.cap hl.most
    replace hl := Lib.hid hl
    clear wf0
    obtain ⟨ln, hn⟩ : ∃ n, l.length = n := ⟨_, rfl⟩
    rw [hn] at hlm ⊢
    replace hn := Lib.hid hn
    obtain ⟨p0, hp, p1, p2⟩ := small n0 6 (by decide)
    replace p1 : (IntKind.u64.wrap n0).tmod 6 = p0 := p1
    replace p2 : IntKind.u64.wrap n0 % 6 = p0 := p2
    obtain ⟨p, hpp⟩ : ∃ p, 1 + p0 = p := ⟨_, rfl⟩
    have hp' : (1 : Int) + p0 = p := by omega
    have hp1 : 1 ≤ p := by omega
    have hp6 : p ≤ 6 := by omega
    go_enter Try.func3, Try.ntmps3
    go_wp2_with fail
    refine (works7_calls w).mono ?_
    rintro e wa ⟨rfl, hc⟩
    have CW := Lib.hid hc
    clear hc
    have MD := Lib.hid (made7 (w := wa.alloc (.cells (nums .i64 (Ti T3)).toArray 3)) (p := p) (T := T3) hp1 (by omega) (tok_of (by decide +kernel)) wa.heap.size 3 (sl_lit wa .i64 (Ti T3) 3 (0, 0)) (by rw [World.size_alloc]; omega))
    go_wp2_with fail
    refine MD.out.mono ?_
    rintro e w1 hm
    obtain ⟨a, h, b, rg, r7, rfl, k0⟩ := hm.bx
    have CB : Hid (Below w.heap.size w (wa.alloc (.cells (nums .i64 (Ti T3)).toArray 3)) ∧ w.heap.size ≤ (wa.alloc (.cells (nums .i64 (Ti T3)).toArray 3)).heap.size) := ⟨CW.out.alloc CW.out.size _, by have := CW.out.size; rw [World.size_alloc]; omega⟩
    have TB : Hid (∀ W, Chg (fun x => (wa.alloc (.cells (nums .i64 (Ti T3)).toArray 3)).heap.size ≤ x) (wa.alloc (.cells (nums .i64 (Ti T3)).toArray 3)) W → ∀ i, i < 3 → W.cell? ⟨wa.heap.size, i, none⟩ = some (.int .i64 (tz T3 i : Int))) := fun W hW i hi => by
      obtain ⟨ad, e, hc⟩ := sl_lit wa .i64 (Ti T3) 3 (0, 0) i hi
      cases e
      rw [add_plain, Nat.zero_add, ti_at] at hc
      exact hW.cell hc (by show ¬ (wa.alloc _).heap.size ≤ wa.heap.size; rw [World.size_alloc]; omega)
    generalize wa.alloc (.cells (nums .i64 (Ti T3)).toArray 3) = wo at k0 CB TB
    generalize wa.heap.size = tb at TB ⊢
    generalize hbs : w1.heap.size = base at k0
    have K1 := Lib.hid (AI.begin k0)
    have LO : Hid (∀ W, Chg (fun x => wo.heap.size ≤ x) wo W → Below w.heap.size w W) := fun W hW => CB.out.1.trans (hW.below CB.out.2 fun x hx => by have := CB.out.2; omega)
    have SLW : Hid (∀ W, Chg (fun x => wo.heap.size ≤ x) wo W → SRow W [.i64, .i64, .i64] A c l) := fun W hW => hl.out.chg (Chg.of_below (LO.out W hW) : Chg (fun b => w.heap.size ≤ b) w W) (Nat.le_refl _)
    have R1 : Hid (RU base (.slice none 0 0) (.slice none 0 0) [] w1) := ⟨Own.nil _ _ _ _, Own.nil _ _ _ _, Apart.none _ _ _⟩
    clear MD hm k0 hbs CB CW hl p1 p2 hpp hp'
    go_upto_block 0 with fail
    go_cut [9, 10] (fun v9 v10 wx => ∃ U, Hid (AI wo.heap.size base wo wx a h b rg r7 U) ∧ Hid (RU base v9 v10 U wx) ∧ Hid (U.length ≤ 80))
    case first =>
      go_wp2_with fail
      go_loopg [9, 10, 11] 80 (fun m v9 v10 i wx => ∃ (k : Nat) (U : List (Nat × Nat)), i = .int .i64 k ∧ m = 80 - k ∧ k ≤ 80 ∧ Hid (AI wo.heap.size base wo wx a h b rg r7 U) ∧ Hid (RU base v9 v10 U wx) ∧ Hid (U.length ≤ k))
      case atStart => exact ⟨0, [], rfl, rfl, by omega, K1.out, R1.out, Nat.le_refl _⟩
      case round =>
        clear K1 R1
        obtain ⟨k, U, rfl, hg, hk, K, R, UL⟩ := hrel
        replace hg := Lib.hid hg
        by_cases h1 : k < ln
        · have h1' : (k : Int) < (ln : Int) := by omega
          by_cases h2 : k < 80
          · have h2' : (k : Int) < 80 := by omega
            have SR := SLW.out wr K.out.bx.2.1
            obtain ⟨ad, rfl, d0, d1⟩ := SR.fields k (by rw [hn.out]; exact h1) (by decide)
            have g0 := d0 .i64 rfl
            have g1 := d1 0 .i64 rfl
            have g2 := d1 1 .i64 rfl
            simp only [List.length_cons, List.length_nil, Nat.reduceAdd, Nat.zero_add] at g0 g1 g2
            clear d0 d1 SR
            generalize (l.getD k []).getD 0 0 = kind at g0
            generalize (l.getD k []).getD 1 0 = x1 at g1
            generalize (l.getD k []).getD 2 0 = x2 at g2
            have FB : Hid ((wr.alloc (.cells #[.int .i64 kind, .int .i64 x1, .int .i64 x2] 30)).heap[wr.heap.size]? = some (.cells #[.int .i64 kind, .int .i64 x1, .int .i64 x2] 30 (0, 0))) := heap_alloc_at _ _
            have CA : Hid (Chg (fun _ => False) wr (wr.alloc (.cells #[.int .i64 kind, .int .i64 x1, .int .i64 x2] 30))) := Chg.alloc _ _ _
            have oN : Hid (¬ S7 a h wr.heap.size ∧ base ≤ wr.heap.size) := ⟨fun q => by have := K.out.bx.2.2 _ q; have := K.out.bx.1; omega, K.out.bx.1⟩
            have K5 := Lib.hid (K.out.skip (CA.out.mono fun _ _ q => q.elim))
            have R5 := Lib.hid (R.out.fresh CA.out)
            have c1 := K5.out.f1
            obtain ⟨AU, cU, rfl⟩ := R.out.o9.form
            obtain ⟨AO, cO, rfl⟩ := R.out.o10.form
            rw [u9_len] at R R5 ⊢
            rw [u10_len] at R R5 ⊢
            obtain ⟨un, hun⟩ : ∃ n, U.length = n := ⟨_, rfl⟩
            rw [hun] at R R5 UL ⊢
            have un80 : un ≤ 80 := by have := UL.out; omega
            replace hun := Lib.hid hun
            have cK : (wr.alloc (.cells #[.int .i64 kind, .int .i64 x1, .int .i64 x2] 30)).cell? ⟨wr.heap.size, 0, none⟩ = some (.int .i64 kind) := by rw [blk_cell FB.out]; rfl
            have cN : (wr.alloc (.cells #[.int .i64 kind, .int .i64 x1, .int .i64 x2] 30)).cell? ⟨wr.heap.size, 1, none⟩ = some (.int .i64 x1) := by rw [blk_cell FB.out]; rfl
            clear K R
            go_upto_region 13 with fail
            clear g0 g1 g2 FB CA
            generalize wr.alloc (.cells #[.int .i64 kind, .int .i64 x1, .int .i64 x2] 30) = w5 at K5 R5 c1 cK cN ⊢
            generalize wr.heap.size = ob at cK cN oN ⊢
            go_cut [62, 67] (fun v62 v wx => ∃ bb, v = .bool bb ∧ Hid (bb = true → kind = 1 ∧ 0 < un) ∧ Hid (wx = w5))
            case first =>
              by_cases e1 : kind = 1
              · have t1 : (kind == 1) = true := by rw [e1]; rfl
                by_cases u0 : 0 < un
                · have u0' : decide ((un : Int) > 0) = true := decide_eq_true (by omega)
                  go_wp2_with fail
                  go_meet
                  exact ⟨true, rfl, fun _ => ⟨e1, u0⟩, rfl⟩
                · have u0' : decide ((un : Int) > 0) = false := decide_eq_false (by omega)
                  go_wp2_with fail
                  go_meet
                  exact ⟨false, rfl, nofun, rfl⟩
              · have t1 : (kind == 1) = false := by rw [beq_eq_false_iff_ne]; exact e1
                go_wp2_with fail
                go_meet
                exact ⟨false, rfl, nofun, rfl⟩
            obtain ⟨bb, rfl, BB, ew⟩ := hcut
            obtain rfl : w5 = _ := ew.out.symm
            go_upto_if 67 with fail
            go_cut [9, 10] (fun v9 v10 wx => v9 = .slice AU un cU ∧ v10 = .slice AO un cO ∧ Hid (wx = w5))
            case first =>
              cases bb with
              | false =>
                go_wp2_with fail
                go_meet
                exact ⟨rfl, rfl, rfl⟩
              | true =>
                have u0 := (BB.out rfl).2
                have u0' : (un : Int) > 0 := by omega
                obtain ⟨q, hq, q1, q2⟩ := small x1 un u0
                have wun : IntKind.u64.wrap (un : Int) = un := by rw [u64_wrap]; omega
                have qi : q < U.length := by rw [hun.out]; exact hq
                have FR := Lib.hid ((K5.out.skip (Chg.drew _ w5)).free qi)
                obtain ⟨g9, cs9, eA, -⟩ := R5.out.o9.blk (by rw [u9_len]; omega)
                subst eA
                obtain ⟨cq, -⟩ := R5.out.o9.cellAt q (by rw [u9_len]; exact qi)
                rw [u9_at qi] at cq
                have hq' : (q : Int) < (un : Int) := by omega
                have hs := Lib.hid K5.out.bx.2.2
                have CELL : Hid (∀ w6, Chg (S7 a h) w5 w6 → w6.cell? ⟨g9, q, none⟩ = some (.int .i64 ((U[q]).1 : Int)) ∧ RU base (.slice (some ⟨g9, 0, none⟩) un cU) (.slice AO un cO) U w6) := fun w6 c6 => by
                  have R6 := R5.out.keep hs.out c6
                  have := (R6.o9.cellAt q (by rw [u9_len]; exact qi)).1
                  rw [u9_at qi] at this
                  exact ⟨this, R6⟩
                generalize (U[q]).1 = y at cq FR CELL
                have DW : Hid (Chg (S7 a h) w5 (World.drew w5)) := Chg.drew _ _
                go_wp2_with fail
                go_region_held3 (fun w' => w'.cell? ⟨b, 1, none⟩ = some (.pointer (some ⟨h.b, 0, none⟩)) ∧ w'.cell? ⟨g9, q, none⟩ = some (.int .i64 (y : Int))) (go_keep)
                  (first
                    | (go_at_call 14; refine FR.out.mono ?_; rintro e w6 ⟨rfl, k6, c6⟩; have d1 := k6.f1; have dn := CELL.out w6 (DW.out.trans c6); have R6 := Lib.hid dn.2; replace dn := dn.1; have K6 := Lib.hid k6; clear k6 c6; skip))
                clear cq c1 cK cN FR CELL DW d1 dn
                obtain ⟨r, hr⟩ : ∃ r, q + 1 + r = un := ⟨un - (q + 1), by omega⟩
                have l9 : Hid ((u9 U).length = un ∧ (u10 U).length = un) := ⟨by rw [u9_len]; exact hun.out, by rw [u10_len]; exact hun.out⟩
                have t1' : Hid (((u9 U).take q).length = q ∧ ((u10 U).take q).length = q) := ⟨by rw [List.length_take, l9.out.1]; omega, by rw [List.length_take, l9.out.2]; omega⟩
                have t2' : Hid (((u9 U).drop (q + 1)).length = r ∧ ((u10 U).drop (q + 1)).length = r) := ⟨by rw [List.length_drop, l9.out.1]; omega, by rw [List.length_drop, l9.out.2]; omega⟩
                obtain ⟨q3, hq3⟩ : ∃ q3, q + 1 = q3 := ⟨_, rfl⟩
                have wq3 : IntKind.i64.wrap (q3 : Int) = q3 := by rw [IntWalk.i64_in _ (by omega)]
                have wq4 : (q : Int) + 1 = (q3 : Int) := by omega
                rw [hq3] at K6 t2'
                replace hq3 := Lib.hid hq3
                replace hr := Lib.hid hr
                have r80 : Hid (q3 + r = un ∧ q + r + 1 = un ∧ q ≤ un) := ⟨by have := hr.out; have := hq3.out; omega, by have := hr.out; have := hq3.out; omega, by omega⟩
                obtain ⟨S1, d1', run1, sl1, nil1⟩ := slice_to und_elem7 size_elem7 R6.out.o9 q (by rw [l9.out.1]; have := r80.out; omega)
                obtain ⟨S2, d2', run2, sl2, nil2⟩ := slice_from und_elem7 size_elem7 R6.out.o9 q3 r (by rw [l9.out.1]; have := r80.out; omega)
                replace sl1 := Lib.hid sl1
                replace sl2 := Lib.hid sl2
                replace nil1 := Lib.hid nil1
                replace nil2 := Lib.hid nil2
                have W40 : Hid (Chg (fun b => w6.heap.size ≤ b) w6 (w6.alloc (.cells #[] 3)).drew) := (Chg.alloc _ _ _).trans (Chg.drew _ _)
                have O40 : Hid (Mem.Own (w6.alloc (.cells #[] 3)).drew w6.heap.size 3 .i64 (.slice (some ⟨w6.heap.size, 0, none⟩) 0 0) []) := (Mem.Own.lit w6 3 .i64 [] (show 0 ≤ maxLen by decide)).chg (Chg.drew (fun _ => False) _) fun _ _ => id
                have Z40 : Hid (w6.heap.size ≤ (w6.alloc (.cells #[] 3)).drew.heap.size) := W40.out.size
                go_wp2_with fail
                go_region_law
                  (first
                    | (refine step_app (by rfl) _ _ 25 (by rfl) w6.heap.size 3 .i64 8 Try.underlying25 infoInt (.slice (some ⟨w6.heap.size, 0, none⟩) 0 0) [] (by rfl) O40.out S1 _ d1' ((u9 U).take q) (by rfl) t1'.out.1 (sl1.out.later W40.out (Nat.le_refl _)) nil1.out (by unfold maxLen; simp; omega) (by simp; omega) Z40.out ?_; intro A16 c16 n16 w16 hn16 hown16 hchg16; obtain rfl : q = n16 := (by rw [hn16]; simp); have O16 : Hid (Mem.Own w16 w6.heap.size 3 .i64 (.slice A16 q c16) ((u9 U).take q)) := hown16; have K16 : Hid (Chg (fun b => w6.heap.size ≤ b) w6 w16) := (W40.out.trans hchg16); clear hn16 hown16 hchg16; skip)
                    | (refine step_app (by rfl) _ _ 25 (by rfl) w6.heap.size 3 .i64 8 Try.underlying25 infoInt (.slice A16 q c16) ((u9 U).take q) (by rfl) O16.out S2 _ d2' ((u9 U).drop q3) (by rfl) t2'.out.1 (sl2.out.later K16.out (Nat.le_refl _)) nil2.out (by rw [t1'.out.1]; have := r80.out; unfold maxLen; omega) (by rw [t1'.out.1]; have := r80.out; omega) (by exact K16.out.size) ?_; intro A17 c17 n17 w17 hn17 hown17 hchg17; have hn17' : Hid (n17 = q + r) := (by rw [hn17, t1'.out.1]; exact rfl); have O17 : Hid (Mem.Own w17 w6.heap.size 3 .i64 (.slice A17 n17 c17) ((u9 U).take q ++ (u9 U).drop q3)) := hown17; have K17 : Hid (Chg (fun b => w6.heap.size ≤ b) w6 w17) := (K16.out.trans hchg17); clear hn17 hown17 hchg17; skip))
                all_goals
                  have O10 : Hid (Mem.Own w17 base 3 .i64 (.slice AO un cO) (u10 U)) := R6.out.o10.chg K17.out fun g hg e => by have := (World.ownsRow.lt R6.out.o10 g hg).2; omega
                  clear run1 run2
                  obtain ⟨S3, d3', run3, sl3, nil3⟩ := slice_to und_elem7 size_elem7 O10.out q (by rw [l9.out.2]; have := r80.out; omega)
                  obtain ⟨S4, d4', run4, sl4, nil4⟩ := slice_from und_elem7 size_elem7 O10.out q3 r (by rw [l9.out.2]; have := r80.out; omega)
                  replace sl3 := Lib.hid sl3
                  replace sl4 := Lib.hid sl4
                  replace nil3 := Lib.hid nil3
                  replace nil4 := Lib.hid nil4
                  have W41 : Hid (Chg (fun b => w17.heap.size ≤ b) w17 (w17.alloc (.cells #[] 3)).drew) := (Chg.alloc _ _ _).trans (Chg.drew _ _)
                  have O41 : Hid (Mem.Own (w17.alloc (.cells #[] 3)).drew w17.heap.size 3 .i64 (.slice (some ⟨w17.heap.size, 0, none⟩) 0 0) []) := (Mem.Own.lit w17 3 .i64 [] (show 0 ≤ maxLen by decide)).chg (Chg.drew (fun _ => False) _) fun _ _ => id
                  have Z41 : Hid (w17.heap.size ≤ (w17.alloc (.cells #[] 3)).drew.heap.size) := W41.out.size
                  go_wp2_with fail
                  go_region_law
                    (first
                      | (refine step_app (by rfl) _ _ 25 (by rfl) w17.heap.size 3 .i64 8 Try.underlying25 infoInt (.slice (some ⟨w17.heap.size, 0, none⟩) 0 0) [] (by rfl) O41.out S3 _ d3' ((u10 U).take q) (by rfl) t1'.out.2 (sl3.out.later W41.out (Nat.le_refl _)) nil3.out (by unfold maxLen; simp; omega) (by simp; omega) Z41.out ?_; intro A26 c26 n26 w26 hn26 hown26 hchg26; obtain rfl : q = n26 := (by rw [hn26]; simp); have O26 : Hid (Mem.Own w26 w17.heap.size 3 .i64 (.slice A26 q c26) ((u10 U).take q)) := hown26; have K26 : Hid (Chg (fun b => w17.heap.size ≤ b) w17 w26) := (W41.out.trans hchg26); clear hn26 hown26 hchg26; skip)
                      | (refine step_app (by rfl) _ _ 25 (by rfl) w17.heap.size 3 .i64 8 Try.underlying25 infoInt (.slice A26 q c26) ((u10 U).take q) (by rfl) O26.out S4 _ d4' ((u10 U).drop q3) (by rfl) t2'.out.2 (sl4.out.later K26.out (Nat.le_refl _)) nil4.out (by rw [t1'.out.2]; have := r80.out; unfold maxLen; omega) (by rw [t1'.out.2]; have := r80.out; omega) (by exact K26.out.size) ?_; intro A27 c27 n27 w27 hn27 hown27 hchg27; have hn27' : Hid (n27 = q + r) := (by rw [hn27, t1'.out.2]; exact rfl); have O27 : Hid (Mem.Own w27 w17.heap.size 3 .i64 (.slice A27 n27 c27) ((u10 U).take q ++ (u10 U).drop q3)) := hown27; have K27 : Hid (Chg (fun b => w17.heap.size ≤ b) w17 w27) := (K26.out.trans hchg27); clear hn27 hown27 hchg27; skip))
                  all_goals
                    have b6 := K6.out.bx.1
                    have hU9 : u9 (U.take q ++ U.drop q3) = (u9 U).take q ++ (u9 U).drop q3 := by rw [← hq3.out]; exact u9_cut U q
                    have hU10 : u10 (U.take q ++ U.drop q3) = (u10 U).take q ++ (u10 U).drop q3 := by rw [← hq3.out]; exact u10_cut U q
                    have s17 := K17.out.size
                    have KX := Lib.hid (K6.out.skip ((K17.out.mono fun x _ hx => Nat.le_trans b6 hx).trans (K27.out.mono fun x _ hx => Nat.le_trans (Nat.le_trans b6 s17) hx)))
                    have RX : Hid (RU base (.slice A17 n17 c17) (.slice A27 n27 c27) (U.take q ++ U.drop q3) w27) := by
                      refine ⟨?_, ?_, fun g hg hg2 => ?_⟩
                      · rw [hU9]
                        exact (O17.out.mono b6).chg K27.out fun g hg e => by have := (World.ownsRow.lt O17.out g hg).2; omega
                      · rw [hU10]
                        exact O27.out.mono (Nat.le_trans b6 s17)
                      · have h1 := (World.ownsRow.lt O17.out g hg).2
                        have h2 := (World.ownsRow.lt O27.out g hg2).1
                        omega
                    have LX : Hid ((U.take q ++ U.drop q3).length ≤ k + 1) := by
                      show _ ≤ _
                      rw [List.length_append, List.length_take, List.length_drop]
                      have := hun.out
                      have := UL.out
                      have := r80.out
                      omega
                    clear run3 run4 b6 hU9 hU10 s17
                    go_wp2_with fail
                    go_roundg (80 - (k + 1))
                    case measure => have := hg.out; omega
                    case rel => exact ⟨k + 1, _, rfl, rfl, by omega, KX.out, RX.out, LX.out⟩
            case rest =>
              clear hR2
              revert n0 l w
              try revert A
              repeat (rename_i xx; revert xx)
              (try revert A16); (try revert A17); (try revert A18); (try revert A26); (try revert A27); (try revert AI); (try revert AL); (try revert AO); (try revert AP); (try revert AU); (try revert Apart); (try revert BB); (try revert Below); (try revert C16); (try revert C18); (try revert C5); (try revert C6); (try revert CA); (try revert CB); (try revert CELL); (try revert CLF); (try revert CN); (try revert CP); (try revert CT); (try revert CW); (try revert Chg); (try revert Class); (try revert CnEnd); (try revert DLT); (try revert DW); (try revert ENTER); (try revert EW); (try revert F7); (try revert FB); (try revert FC); (try revert FR); (try revert Free); (try revert IFF); (try revert IsFree); (try revert K); (try revert K1); (try revert K16); (try revert K17); (try revert K26); (try revert K27); (try revert K5); (try revert K6); (try revert K7); (try revert KD); (try revert KF); (try revert KX); (try revert LO); (try revert LX); (try revert MD); (try revert Mem); (try revert O10); (try revert O16); (try revert O17); (try revert O26); (try revert O27); (try revert O40); (try revert O41); (try revert Op); (try revert Own); (try revert R); (try revert R1); (try revert R16); (try revert R18); (try revert R5); (try revert R6); (try revert R7); (try revert RF); (try revert RU); (try revert RX); (try revert S1); (try revert S2); (try revert S3); (try revert S4); (try revert S7); (try revert SLW); (try revert SR); (try revert SRow); (try revert T); (try revert T3); (try revert TB); (try revert TBd); (try revert Ti); (try revert U); (try revert UL); (try revert W); (try revert W40); (try revert W41); (try revert Z40); (try revert Z41); (try revert a); (try revert ad); (try revert add); (try revert alloc); (try revert ap); (try revert apart); (try revert app); (try revert app10); (try revert app9); (try revert append); (try revert b); (try revert b6); (try revert base); (try revert bb); (try revert begin); (try revert below); (try revert beq); (try revert blk); (try revert block); (try revert bool); (try revert bx); (try revert c); (try revert c0); (try revert c1); (try revert c10); (try revert c16); (try revert c17); (try revert c18); (try revert c26); (try revert c27); (try revert c5); (try revert c6); (try revert c7); (try revert c9); (try revert cK); (try revert cN); (try revert cO); (try revert cU); (try revert call); (try revert calls); (try revert cap); (try revert cc); (try revert cc3); (try revert cell); (try revert cellAt); (try revert cells); (try revert chg); (try revert cons); (try revert countP); (try revert counts); (try revert cq); (try revert cs10); (try revert cs9); (try revert cu); (try revert cut); (try revert d); (try revert d0); (try revert d1); (try revert d1'); (try revert d2'); (try revert d3'); (try revert d4'); (try revert d9); (try revert dd1); (try revert dd9); (try revert dl); (try revert dl3); (try revert dn); (try revert drew); (try revert drewN); (try revert drop); (try revert e); (try revert e1); (try revert e2); (try revert e3); (try revert eA); (try revert eB); (try revert elem7); (try revert elim); (try revert eq); (try revert ew); (try revert f0); (try revert f1); (try revert fact7); (try revert fail); (try revert fields); (try revert form); (try revert free); (try revert fresh); (try revert g); (try revert g0); (try revert g1); (try revert g10); (try revert g2); (try revert g9); (try revert getD); (try revert goals); (try revert h); (try revert h1); (try revert h1'); (try revert h2); (try revert h2'); (try revert h3); (try revert h3'); (try revert h4); (try revert h4'); (try revert h63); (try revert hU10); (try revert hU9); (try revert hW); (try revert hat16); (try revert hat18); (try revert hba); (try revert hbs); (try revert hby); (try revert hc); (try revert hc16); (try revert hc18); (try revert hcc); (try revert hchg16); (try revert hchg17); (try revert hchg26); (try revert hchg27); (try revert hcl); (try revert hcp); (try revert hcut); (try revert hd); (try revert heap); (try revert held3); (try revert hg); (try revert hg2); (try revert hgc); (try revert hgy); (try revert hi); (try revert hk); (try revert hl); (try revert hlm); (try revert hlt); (try revert hm); (try revert hn); (try revert hn16); (try revert hn17); (try revert hn17'); (try revert hn18); (try revert hn26); (try revert hn27); (try revert hn27'); (try revert ho16); (try revert ho18); (try revert hown16); (try revert hown17); (try revert hown26); (try revert hown27); (try revert hp); (try revert hp'); (try revert hp1); (try revert hp6); (try revert hpp); (try revert hq); (try revert hq'); (try revert hq3); (try revert hr); (try revert hrel); (try revert hs); (try revert hun); (try revert hx); (try revert hy); (try revert hz1); (try revert hz2); (try revert i); (try revert i64); (try revert id); (try revert iff); (try revert int); (try revert isfree); (try revert k); (try revert k0); (try revert k6); (try revert k7); (try revert keep); (try revert kernel); (try revert kind); (try revert l); (try revert l1); (try revert l2); (try revert l9); (try revert later); (try revert law); (try revert le); (try revert len); (try revert lit); (try revert ln); (try revert loopg); (try revert lt); (try revert m); (try revert m1); (try revert made7); (try revert maxLen); (try revert meet); (try revert mem); (try revert mono); (try revert most); (try revert n); (try revert n0); (try revert n1); (try revert n16); (try revert n17); (try revert n18); (try revert n26); (try revert n27); (try revert n80); (try revert ne); (try revert neg); (try revert nil); (try revert nil1); (try revert nil2); (try revert nil3); (try revert nil4); (try revert nq); (try revert nums); (try revert o10); (try revert o9); (try revert oN); (try revert ob); (try revert p); (try revert p0); (try revert p1); (try revert p2); (try revert plain); (try revert pos); (try revert pp); (try revert q); (try revert q0); (try revert q1); (try revert q2); (try revert q3); (try revert qi); (try revert quiet); (try revert r); (try revert r7); (try revert r80); (try revert refl); (try revert region); (try revert rel); (try revert ret); (try revert rg); (try revert roundg); (try revert run1); (try revert run2); (try revert run3); (try revert run4); (try revert s17); (try revert self); (try revert size); (try revert sl); (try revert sl1); (try revert sl2); (try revert sl3); (try revert sl4); (try revert slice); (try revert small); (try revert step); (try revert succ); (try revert symm); (try revert sz7); (try revert t); (try revert t1); (try revert t1'); (try revert t2); (try revert t2'); (try revert t3); (try revert t3c); (try revert t3d); (try revert take); (try revert tb); (try revert tc); (try revert td); (try revert ti); (try revert tmod); (try revert tok); (try revert tz); (try revert u); (try revert u0'); (try revert un); (try revert un80); (try revert und); (try revert upto); (try revert v); (try revert v10); (try revert v6); (try revert v62); (try revert v9); (try revert vc); (try revert vk); (try revert vn); (try revert w); (try revert w'); (try revert w1); (try revert w1'); (try revert w16); (try revert w17); (try revert w18); (try revert w2'); (try revert w26); (try revert w27); (try revert w5); (try revert w6); (try revert w7); (try revert w8); (try revert wa); (try revert wf0); (try revert wn); (try revert wo); (try revert works7); (try revert wp2); (try revert wpList); (try revert wq3); (try revert wq4); (try revert wr); (try revert wrap); (try revert wun); (try revert wx); (try revert x); (try revert x1); (try revert x2); (try revert xl); (try revert y); (try revert y1); (try revert yd); (try revert yl); (try revert ym); (try revert yn); (try revert z1); (try revert z2); (try revert zero); (try revert wb); (try revert wc); (try revert wd); (try revert we); (try revert wf); (try revert wg); (try revert wh); (try revert wi); (try revert wj); (try revert wk); (try revert wl); (try revert wm); (try revert wp); (try revert wq); (try revert ws); (try revert wt); (try revert wu); (try revert wv); (try revert wy); (try revert wz); (try revert hround); (try revert gk); (try revert J); (try revert Q); (try revert K'); (try revert Q'); (try revert u0); (try revert u1); (try revert u2); (try revert u3); (try revert u4); (try revert u5); (try revert u6); (try revert u7); (try revert u8); (try revert u9); (try revert u10); (try revert u11); (try revert u12); (try revert u13); (try revert u14); (try revert u15); (try revert u16); (try revert u17); (try revert u18); (try revert u19); (try revert u20); (try revert u21); (try revert u22); (try revert u23); (try revert u24); (try revert u25); (try revert u26); (try revert u27); (try revert u28); (try revert u29); (try revert u30); (try revert u31); (try revert u32); (try revert u33); (try revert u34); (try revert u35); (try revert u36); (try revert u37); (try revert u38); (try revert u39); (try revert u40); (try revert u41); (try revert u42); (try revert u43); (try revert u44); (try revert u45); (try revert u46); (try revert u47); (try revert u48); (try revert u49); (try revert u50); (try revert u51); (try revert u52); (try revert u53); (try revert u54); (try revert u55); (try revert u56); (try revert u57); (try revert u58); (try revert u59); (try revert u60); (try revert u61); (try revert u62); (try revert u63); (try revert u64); (try revert u65); (try revert u66); (try revert u67); (try revert u68); (try revert u69); (try revert u70); (try revert u71); (try revert u72); (try revert u73); (try revert u74); (try revert u75); (try revert u76); (try revert u77); (try revert u78); (try revert u79); (try revert u80); (try revert u81); (try revert u82); (try revert u83); (try revert u84); (try revert u85); (try revert u86); (try revert u87); (try revert u88); (try revert u89); (try revert u90); (try revert u91); (try revert u92); (try revert u93); (try revert u94); (try revert u95); (try revert u96); (try revert u97); (try revert u98); (try revert u99); (try revert u100); (try revert u101); (try revert u102); (try revert u103); (try revert u104); (try revert u105); (try revert u106); (try revert u107); (try revert u108); (try revert u109); (try revert u110); (try revert u111); (try revert u112); (try revert u113); (try revert u114); (try revert u115); (try revert u116); (try revert u117); (try revert u118); (try revert u119); (try revert u120); (try revert u121); (try revert u122); (try revert u123); (try revert u124); (try revert u125); (try revert u126); (try revert u127); (try revert u128); (try revert u129); (try revert u130); (try revert u131); (try revert u132); (try revert u133); (try revert u134); (try revert u135); (try revert u136); (try revert u137); (try revert u138); (try revert u139); (try revert u140); (try revert u141); (try revert u142); (try revert u143); (try revert u144); (try revert u145); (try revert u146); (try revert u147); (try revert u148); (try revert u149); (try revert u150); (try revert u151); (try revert u152); (try revert u153); (try revert u154); (try revert u155); (try revert u156); (try revert u157); (try revert u158); (try revert u159); (try revert u160); (try revert u161); (try revert u162); (try revert u163); (try revert u164); (try revert u165); (try revert u166); (try revert u167); (try revert u168); (try revert u169); (try revert u170); (try revert u171); (try revert u172); (try revert u173); (try revert u174); (try revert u175); (try revert u176); (try revert u177); (try revert u178); (try revert u179); (try revert u180); (try revert u181); (try revert u182); (try revert u183); (try revert u184); (try revert u185); (try revert u186); (try revert u187); (try revert u188); (try revert u189); (try revert u190); (try revert u191); (try revert u192); (try revert u193); (try revert u194); (try revert u195); (try revert u196); (try revert u197); (try revert u198); (try revert u199); (try revert u200); (try revert u201); (try revert u202); (try revert u203); (try revert u204); (try revert u205); (try revert u206); (try revert u207); (try revert u208); (try revert u209); (try revert u210); (try revert u211); (try revert u212); (try revert u213); (try revert u214); (try revert u215); (try revert u216); (try revert u217); (try revert u218); (try revert u219); (try revert u220); (try revert u221); (try revert u222); (try revert u223); (try revert u224); (try revert u225); (try revert u226); (try revert u227); (try revert u228); (try revert u229); (try revert u230); (try revert u231); (try revert u232); (try revert u233); (try revert u234); (try revert u235); (try revert u236); (try revert u237); (try revert u238); (try revert u239); (try revert u240); (try revert u241); (try revert u242); (try revert u243); (try revert u244); (try revert u245); (try revert u246); (try revert u247); (try revert u248); (try revert u249); (try revert u250); (try revert u251); (try revert u252); (try revert u253); (try revert u254); (try revert u255); (try revert u256); (try revert u257); (try revert u258); (try revert u259); (try revert u260); (try revert u261); (try revert u262); (try revert u263); (try revert u264); (try revert u265); (try revert u266); (try revert u267); (try revert u268); (try revert u269); (try revert u270); (try revert u271); (try revert u272); (try revert u273); (try revert u274); (try revert u275); (try revert u276); (try revert u277); (try revert u278); (try revert u279); (try revert u280); (try revert u281); (try revert u282); (try revert u283); (try revert u284); (try revert u285); (try revert u286); (try revert u287); (try revert u288); (try revert u289); (try revert v0); (try revert v1); (try revert v2); (try revert v3); (try revert v4); (try revert v5); (try revert v7); (try revert v8); (try revert v11); (try revert v12); (try revert v13); (try revert v14); (try revert v15); (try revert v16); (try revert v17); (try revert v18); (try revert v19); (try revert v20); (try revert v21); (try revert v22); (try revert v23); (try revert v24); (try revert v25); (try revert v26); (try revert v27); (try revert v28); (try revert v29)
              repeat (rename_i xx; revert xx)
              (try revert A16); (try revert A17); (try revert A18); (try revert A26); (try revert A27); (try revert AI); (try revert AL); (try revert AO); (try revert AP); (try revert AU); (try revert Apart); (try revert BB); (try revert Below); (try revert C16); (try revert C18); (try revert C5); (try revert C6); (try revert CA); (try revert CB); (try revert CELL); (try revert CLF); (try revert CN); (try revert CP); (try revert CT); (try revert CW); (try revert Chg); (try revert Class); (try revert CnEnd); (try revert DLT); (try revert DW); (try revert ENTER); (try revert EW); (try revert F7); (try revert FB); (try revert FC); (try revert FR); (try revert Free); (try revert IFF); (try revert IsFree); (try revert K); (try revert K1); (try revert K16); (try revert K17); (try revert K26); (try revert K27); (try revert K5); (try revert K6); (try revert K7); (try revert KD); (try revert KF); (try revert KX); (try revert LO); (try revert LX); (try revert MD); (try revert Mem); (try revert O10); (try revert O16); (try revert O17); (try revert O26); (try revert O27); (try revert O40); (try revert O41); (try revert Op); (try revert Own); (try revert R); (try revert R1); (try revert R16); (try revert R18); (try revert R5); (try revert R6); (try revert R7); (try revert RF); (try revert RU); (try revert RX); (try revert S1); (try revert S2); (try revert S3); (try revert S4); (try revert S7); (try revert SLW); (try revert SR); (try revert SRow); (try revert T); (try revert T3); (try revert TB); (try revert TBd); (try revert Ti); (try revert U); (try revert UL); (try revert W); (try revert W40); (try revert W41); (try revert Z40); (try revert Z41); (try revert a); (try revert ad); (try revert add); (try revert alloc); (try revert ap); (try revert apart); (try revert app); (try revert app10); (try revert app9); (try revert append); (try revert b); (try revert b6); (try revert base); (try revert bb); (try revert begin); (try revert below); (try revert beq); (try revert blk); (try revert block); (try revert bool); (try revert bx); (try revert c); (try revert c0); (try revert c1); (try revert c10); (try revert c16); (try revert c17); (try revert c18); (try revert c26); (try revert c27); (try revert c5); (try revert c6); (try revert c7); (try revert c9); (try revert cK); (try revert cN); (try revert cO); (try revert cU); (try revert call); (try revert calls); (try revert cap); (try revert cc); (try revert cc3); (try revert cell); (try revert cellAt); (try revert cells); (try revert chg); (try revert cons); (try revert countP); (try revert counts); (try revert cq); (try revert cs10); (try revert cs9); (try revert cu); (try revert cut); (try revert d); (try revert d0); (try revert d1); (try revert d1'); (try revert d2'); (try revert d3'); (try revert d4'); (try revert d9); (try revert dd1); (try revert dd9); (try revert dl); (try revert dl3); (try revert dn); (try revert drew); (try revert drewN); (try revert drop); (try revert e); (try revert e1); (try revert e2); (try revert e3); (try revert eA); (try revert eB); (try revert elem7); (try revert elim); (try revert eq); (try revert ew); (try revert f0); (try revert f1); (try revert fact7); (try revert fail); (try revert fields); (try revert form); (try revert free); (try revert fresh); (try revert g); (try revert g0); (try revert g1); (try revert g10); (try revert g2); (try revert g9); (try revert getD); (try revert goals); (try revert h); (try revert h1); (try revert h1'); (try revert h2); (try revert h2'); (try revert h3); (try revert h3'); (try revert h4); (try revert h4'); (try revert h63); (try revert hU10); (try revert hU9); (try revert hW); (try revert hat16); (try revert hat18); (try revert hba); (try revert hbs); (try revert hby); (try revert hc); (try revert hc16); (try revert hc18); (try revert hcc); (try revert hchg16); (try revert hchg17); (try revert hchg26); (try revert hchg27); (try revert hcl); (try revert hcp); (try revert hcut); (try revert hd); (try revert heap); (try revert held3); (try revert hg); (try revert hg2); (try revert hgc); (try revert hgy); (try revert hi); (try revert hk); (try revert hl); (try revert hlm); (try revert hlt); (try revert hm); (try revert hn); (try revert hn16); (try revert hn17); (try revert hn17'); (try revert hn18); (try revert hn26); (try revert hn27); (try revert hn27'); (try revert ho16); (try revert ho18); (try revert hown16); (try revert hown17); (try revert hown26); (try revert hown27); (try revert hp); (try revert hp'); (try revert hp1); (try revert hp6); (try revert hpp); (try revert hq); (try revert hq'); (try revert hq3); (try revert hr); (try revert hrel); (try revert hs); (try revert hun); (try revert hx); (try revert hy); (try revert hz1); (try revert hz2); (try revert i); (try revert i64); (try revert id); (try revert iff); (try revert int); (try revert isfree); (try revert k); (try revert k0); (try revert k6); (try revert k7); (try revert keep); (try revert kernel); (try revert kind); (try revert l); (try revert l1); (try revert l2); (try revert l9); (try revert later); (try revert law); (try revert le); (try revert len); (try revert lit); (try revert ln); (try revert loopg); (try revert lt); (try revert m); (try revert m1); (try revert made7); (try revert maxLen); (try revert meet); (try revert mem); (try revert mono); (try revert most); (try revert n); (try revert n0); (try revert n1); (try revert n16); (try revert n17); (try revert n18); (try revert n26); (try revert n27); (try revert n80); (try revert ne); (try revert neg); (try revert nil); (try revert nil1); (try revert nil2); (try revert nil3); (try revert nil4); (try revert nq); (try revert nums); (try revert o10); (try revert o9); (try revert oN); (try revert ob); (try revert p); (try revert p0); (try revert p1); (try revert p2); (try revert plain); (try revert pos); (try revert pp); (try revert q); (try revert q0); (try revert q1); (try revert q2); (try revert q3); (try revert qi); (try revert quiet); (try revert r); (try revert r7); (try revert r80); (try revert refl); (try revert region); (try revert rel); (try revert ret); (try revert rg); (try revert roundg); (try revert run1); (try revert run2); (try revert run3); (try revert run4); (try revert s17); (try revert self); (try revert size); (try revert sl); (try revert sl1); (try revert sl2); (try revert sl3); (try revert sl4); (try revert slice); (try revert small); (try revert step); (try revert succ); (try revert symm); (try revert sz7); (try revert t); (try revert t1); (try revert t1'); (try revert t2); (try revert t2'); (try revert t3); (try revert t3c); (try revert t3d); (try revert take); (try revert tb); (try revert tc); (try revert td); (try revert ti); (try revert tmod); (try revert tok); (try revert tz); (try revert u); (try revert u0'); (try revert un); (try revert un80); (try revert und); (try revert upto); (try revert v); (try revert v10); (try revert v6); (try revert v62); (try revert v9); (try revert vc); (try revert vk); (try revert vn); (try revert w); (try revert w'); (try revert w1); (try revert w1'); (try revert w16); (try revert w17); (try revert w18); (try revert w2'); (try revert w26); (try revert w27); (try revert w5); (try revert w6); (try revert w7); (try revert w8); (try revert wa); (try revert wf0); (try revert wn); (try revert wo); (try revert works7); (try revert wp2); (try revert wpList); (try revert wq3); (try revert wq4); (try revert wr); (try revert wrap); (try revert wun); (try revert wx); (try revert x); (try revert x1); (try revert x2); (try revert xl); (try revert y); (try revert y1); (try revert yd); (try revert yl); (try revert ym); (try revert yn); (try revert z1); (try revert z2); (try revert zero); (try revert wb); (try revert wc); (try revert wd); (try revert we); (try revert wf); (try revert wg); (try revert wh); (try revert wi); (try revert wj); (try revert wk); (try revert wl); (try revert wm); (try revert wp); (try revert wq); (try revert ws); (try revert wt); (try revert wu); (try revert wv); (try revert wy); (try revert wz); (try revert hround); (try revert gk); (try revert J); (try revert Q); (try revert K'); (try revert Q'); (try revert u0); (try revert u1); (try revert u2); (try revert u3); (try revert u4); (try revert u5); (try revert u6); (try revert u7); (try revert u8); (try revert u9); (try revert u10); (try revert u11); (try revert u12); (try revert u13); (try revert u14); (try revert u15); (try revert u16); (try revert u17); (try revert u18); (try revert u19); (try revert u20); (try revert u21); (try revert u22); (try revert u23); (try revert u24); (try revert u25); (try revert u26); (try revert u27); (try revert u28); (try revert u29); (try revert u30); (try revert u31); (try revert u32); (try revert u33); (try revert u34); (try revert u35); (try revert u36); (try revert u37); (try revert u38); (try revert u39); (try revert u40); (try revert u41); (try revert u42); (try revert u43); (try revert u44); (try revert u45); (try revert u46); (try revert u47); (try revert u48); (try revert u49); (try revert u50); (try revert u51); (try revert u52); (try revert u53); (try revert u54); (try revert u55); (try revert u56); (try revert u57); (try revert u58); (try revert u59); (try revert u60); (try revert u61); (try revert u62); (try revert u63); (try revert u64); (try revert u65); (try revert u66); (try revert u67); (try revert u68); (try revert u69); (try revert u70); (try revert u71); (try revert u72); (try revert u73); (try revert u74); (try revert u75); (try revert u76); (try revert u77); (try revert u78); (try revert u79); (try revert u80); (try revert u81); (try revert u82); (try revert u83); (try revert u84); (try revert u85); (try revert u86); (try revert u87); (try revert u88); (try revert u89); (try revert u90); (try revert u91); (try revert u92); (try revert u93); (try revert u94); (try revert u95); (try revert u96); (try revert u97); (try revert u98); (try revert u99); (try revert u100); (try revert u101); (try revert u102); (try revert u103); (try revert u104); (try revert u105); (try revert u106); (try revert u107); (try revert u108); (try revert u109); (try revert u110); (try revert u111); (try revert u112); (try revert u113); (try revert u114); (try revert u115); (try revert u116); (try revert u117); (try revert u118); (try revert u119); (try revert u120); (try revert u121); (try revert u122); (try revert u123); (try revert u124); (try revert u125); (try revert u126); (try revert u127); (try revert u128); (try revert u129); (try revert u130); (try revert u131); (try revert u132); (try revert u133); (try revert u134); (try revert u135); (try revert u136); (try revert u137); (try revert u138); (try revert u139); (try revert u140); (try revert u141); (try revert u142); (try revert u143); (try revert u144); (try revert u145); (try revert u146); (try revert u147); (try revert u148); (try revert u149); (try revert u150); (try revert u151); (try revert u152); (try revert u153); (try revert u154); (try revert u155); (try revert u156); (try revert u157); (try revert u158); (try revert u159); (try revert u160); (try revert u161); (try revert u162); (try revert u163); (try revert u164); (try revert u165); (try revert u166); (try revert u167); (try revert u168); (try revert u169); (try revert u170); (try revert u171); (try revert u172); (try revert u173); (try revert u174); (try revert u175); (try revert u176); (try revert u177); (try revert u178); (try revert u179); (try revert u180); (try revert u181); (try revert u182); (try revert u183); (try revert u184); (try revert u185); (try revert u186); (try revert u187); (try revert u188); (try revert u189); (try revert u190); (try revert u191); (try revert u192); (try revert u193); (try revert u194); (try revert u195); (try revert u196); (try revert u197); (try revert u198); (try revert u199); (try revert u200); (try revert u201); (try revert u202); (try revert u203); (try revert u204); (try revert u205); (try revert u206); (try revert u207); (try revert u208); (try revert u209); (try revert u210); (try revert u211); (try revert u212); (try revert u213); (try revert u214); (try revert u215); (try revert u216); (try revert u217); (try revert u218); (try revert u219); (try revert u220); (try revert u221); (try revert u222); (try revert u223); (try revert u224); (try revert u225); (try revert u226); (try revert u227); (try revert u228); (try revert u229); (try revert u230); (try revert u231); (try revert u232); (try revert u233); (try revert u234); (try revert u235); (try revert u236); (try revert u237); (try revert u238); (try revert u239); (try revert u240); (try revert u241); (try revert u242); (try revert u243); (try revert u244); (try revert u245); (try revert u246); (try revert u247); (try revert u248); (try revert u249); (try revert u250); (try revert u251); (try revert u252); (try revert u253); (try revert u254); (try revert u255); (try revert u256); (try revert u257); (try revert u258); (try revert u259); (try revert u260); (try revert u261); (try revert u262); (try revert u263); (try revert u264); (try revert u265); (try revert u266); (try revert u267); (try revert u268); (try revert u269); (try revert u270); (try revert u271); (try revert u272); (try revert u273); (try revert u274); (try revert u275); (try revert u276); (try revert u277); (try revert u278); (try revert u279); (try revert u280); (try revert u281); (try revert u282); (try revert u283); (try revert u284); (try revert u285); (try revert u286); (try revert u287); (try revert u288); (try revert u289); (try revert v0); (try revert v1); (try revert v2); (try revert v3); (try revert v4); (try revert v5); (try revert v7); (try revert v8); (try revert v11); (try revert v12); (try revert v13); (try revert v14); (try revert v15); (try revert v16); (try revert v17); (try revert v18); (try revert v19); (try revert v20); (try revert v21); (try revert v22); (try revert v23); (try revert v24); (try revert v25); (try revert v26); (try revert v27); (try revert v28); (try revert v29)
              repeat (rename_i xx; revert xx)
              have dummy := True.intro
              revert dummy
              exact hR1.out
          · have h2' : ¬ (k : Int) < 80 := by omega
            go_wp2_with fail
            go_meet
            exact ⟨U, K.out, R.out, by have := UL.out; show U.length ≤ 80; omega⟩
        · have h1' : ¬ (k : Int) < (ln : Int) := by omega
          go_wp2_with fail
          go_meet
          exact ⟨U, K.out, R.out, by have := UL.out; show U.length ≤ 80; omega⟩
    case rest =>
      clear hR1
      revert n0 l w
      try revert A
      repeat (rename_i xx; revert xx)
      (try revert A16); (try revert A17); (try revert A18); (try revert A26); (try revert A27); (try revert AI); (try revert AL); (try revert AO); (try revert AP); (try revert AU); (try revert Apart); (try revert BB); (try revert Below); (try revert C16); (try revert C18); (try revert C5); (try revert C6); (try revert CA); (try revert CB); (try revert CELL); (try revert CLF); (try revert CN); (try revert CP); (try revert CT); (try revert CW); (try revert Chg); (try revert Class); (try revert CnEnd); (try revert DLT); (try revert DW); (try revert ENTER); (try revert EW); (try revert F7); (try revert FB); (try revert FC); (try revert FR); (try revert Free); (try revert IFF); (try revert IsFree); (try revert K); (try revert K1); (try revert K16); (try revert K17); (try revert K26); (try revert K27); (try revert K5); (try revert K6); (try revert K7); (try revert KD); (try revert KF); (try revert KX); (try revert LO); (try revert LX); (try revert MD); (try revert Mem); (try revert O10); (try revert O16); (try revert O17); (try revert O26); (try revert O27); (try revert O40); (try revert O41); (try revert Op); (try revert Own); (try revert R); (try revert R1); (try revert R16); (try revert R18); (try revert R5); (try revert R6); (try revert R7); (try revert RF); (try revert RU); (try revert RX); (try revert S1); (try revert S2); (try revert S3); (try revert S4); (try revert S7); (try revert SLW); (try revert SR); (try revert SRow); (try revert T); (try revert T3); (try revert TB); (try revert TBd); (try revert Ti); (try revert U); (try revert UL); (try revert W); (try revert W40); (try revert W41); (try revert Z40); (try revert Z41); (try revert a); (try revert ad); (try revert add); (try revert alloc); (try revert ap); (try revert apart); (try revert app); (try revert app10); (try revert app9); (try revert append); (try revert b); (try revert b6); (try revert base); (try revert bb); (try revert begin); (try revert below); (try revert beq); (try revert blk); (try revert block); (try revert bool); (try revert bx); (try revert c); (try revert c0); (try revert c1); (try revert c10); (try revert c16); (try revert c17); (try revert c18); (try revert c26); (try revert c27); (try revert c5); (try revert c6); (try revert c7); (try revert c9); (try revert cK); (try revert cN); (try revert cO); (try revert cU); (try revert call); (try revert calls); (try revert cap); (try revert cc); (try revert cc3); (try revert cell); (try revert cellAt); (try revert cells); (try revert chg); (try revert cons); (try revert countP); (try revert counts); (try revert cq); (try revert cs10); (try revert cs9); (try revert cu); (try revert cut); (try revert d); (try revert d0); (try revert d1); (try revert d1'); (try revert d2'); (try revert d3'); (try revert d4'); (try revert d9); (try revert dd1); (try revert dd9); (try revert dl); (try revert dl3); (try revert dn); (try revert drew); (try revert drewN); (try revert drop); (try revert e); (try revert e1); (try revert e2); (try revert e3); (try revert eA); (try revert eB); (try revert elem7); (try revert elim); (try revert eq); (try revert ew); (try revert f0); (try revert f1); (try revert fact7); (try revert fail); (try revert fields); (try revert form); (try revert free); (try revert fresh); (try revert g); (try revert g0); (try revert g1); (try revert g10); (try revert g2); (try revert g9); (try revert getD); (try revert goals); (try revert h); (try revert h1); (try revert h1'); (try revert h2); (try revert h2'); (try revert h3); (try revert h3'); (try revert h4); (try revert h4'); (try revert h63); (try revert hU10); (try revert hU9); (try revert hW); (try revert hat16); (try revert hat18); (try revert hba); (try revert hbs); (try revert hby); (try revert hc); (try revert hc16); (try revert hc18); (try revert hcc); (try revert hchg16); (try revert hchg17); (try revert hchg26); (try revert hchg27); (try revert hcl); (try revert hcp); (try revert hcut); (try revert hd); (try revert heap); (try revert held3); (try revert hg); (try revert hg2); (try revert hgc); (try revert hgy); (try revert hi); (try revert hk); (try revert hl); (try revert hlm); (try revert hlt); (try revert hm); (try revert hn); (try revert hn16); (try revert hn17); (try revert hn17'); (try revert hn18); (try revert hn26); (try revert hn27); (try revert hn27'); (try revert ho16); (try revert ho18); (try revert hown16); (try revert hown17); (try revert hown26); (try revert hown27); (try revert hp); (try revert hp'); (try revert hp1); (try revert hp6); (try revert hpp); (try revert hq); (try revert hq'); (try revert hq3); (try revert hr); (try revert hrel); (try revert hs); (try revert hun); (try revert hx); (try revert hy); (try revert hz1); (try revert hz2); (try revert i); (try revert i64); (try revert id); (try revert iff); (try revert int); (try revert isfree); (try revert k); (try revert k0); (try revert k6); (try revert k7); (try revert keep); (try revert kernel); (try revert kind); (try revert l); (try revert l1); (try revert l2); (try revert l9); (try revert later); (try revert law); (try revert le); (try revert len); (try revert lit); (try revert ln); (try revert loopg); (try revert lt); (try revert m); (try revert m1); (try revert made7); (try revert maxLen); (try revert meet); (try revert mem); (try revert mono); (try revert most); (try revert n); (try revert n0); (try revert n1); (try revert n16); (try revert n17); (try revert n18); (try revert n26); (try revert n27); (try revert n80); (try revert ne); (try revert neg); (try revert nil); (try revert nil1); (try revert nil2); (try revert nil3); (try revert nil4); (try revert nq); (try revert nums); (try revert o10); (try revert o9); (try revert oN); (try revert ob); (try revert p); (try revert p0); (try revert p1); (try revert p2); (try revert plain); (try revert pos); (try revert pp); (try revert q); (try revert q0); (try revert q1); (try revert q2); (try revert q3); (try revert qi); (try revert quiet); (try revert r); (try revert r7); (try revert r80); (try revert refl); (try revert region); (try revert rel); (try revert ret); (try revert rg); (try revert roundg); (try revert run1); (try revert run2); (try revert run3); (try revert run4); (try revert s17); (try revert self); (try revert size); (try revert sl); (try revert sl1); (try revert sl2); (try revert sl3); (try revert sl4); (try revert slice); (try revert small); (try revert step); (try revert succ); (try revert symm); (try revert sz7); (try revert t); (try revert t1); (try revert t1'); (try revert t2); (try revert t2'); (try revert t3); (try revert t3c); (try revert t3d); (try revert take); (try revert tb); (try revert tc); (try revert td); (try revert ti); (try revert tmod); (try revert tok); (try revert tz); (try revert u); (try revert u0'); (try revert un); (try revert un80); (try revert und); (try revert upto); (try revert v); (try revert v10); (try revert v6); (try revert v62); (try revert v9); (try revert vc); (try revert vk); (try revert vn); (try revert w); (try revert w'); (try revert w1); (try revert w1'); (try revert w16); (try revert w17); (try revert w18); (try revert w2'); (try revert w26); (try revert w27); (try revert w5); (try revert w6); (try revert w7); (try revert w8); (try revert wa); (try revert wf0); (try revert wn); (try revert wo); (try revert works7); (try revert wp2); (try revert wpList); (try revert wq3); (try revert wq4); (try revert wr); (try revert wrap); (try revert wun); (try revert wx); (try revert x); (try revert x1); (try revert x2); (try revert xl); (try revert y); (try revert y1); (try revert yd); (try revert yl); (try revert ym); (try revert yn); (try revert z1); (try revert z2); (try revert zero); (try revert wb); (try revert wc); (try revert wd); (try revert we); (try revert wf); (try revert wg); (try revert wh); (try revert wi); (try revert wj); (try revert wk); (try revert wl); (try revert wm); (try revert wp); (try revert wq); (try revert ws); (try revert wt); (try revert wu); (try revert wv); (try revert wy); (try revert wz); (try revert hround); (try revert gk); (try revert J); (try revert Q); (try revert K'); (try revert Q'); (try revert u0); (try revert u1); (try revert u2); (try revert u3); (try revert u4); (try revert u5); (try revert u6); (try revert u7); (try revert u8); (try revert u9); (try revert u10); (try revert u11); (try revert u12); (try revert u13); (try revert u14); (try revert u15); (try revert u16); (try revert u17); (try revert u18); (try revert u19); (try revert u20); (try revert u21); (try revert u22); (try revert u23); (try revert u24); (try revert u25); (try revert u26); (try revert u27); (try revert u28); (try revert u29); (try revert u30); (try revert u31); (try revert u32); (try revert u33); (try revert u34); (try revert u35); (try revert u36); (try revert u37); (try revert u38); (try revert u39); (try revert u40); (try revert u41); (try revert u42); (try revert u43); (try revert u44); (try revert u45); (try revert u46); (try revert u47); (try revert u48); (try revert u49); (try revert u50); (try revert u51); (try revert u52); (try revert u53); (try revert u54); (try revert u55); (try revert u56); (try revert u57); (try revert u58); (try revert u59); (try revert u60); (try revert u61); (try revert u62); (try revert u63); (try revert u64); (try revert u65); (try revert u66); (try revert u67); (try revert u68); (try revert u69); (try revert u70); (try revert u71); (try revert u72); (try revert u73); (try revert u74); (try revert u75); (try revert u76); (try revert u77); (try revert u78); (try revert u79); (try revert u80); (try revert u81); (try revert u82); (try revert u83); (try revert u84); (try revert u85); (try revert u86); (try revert u87); (try revert u88); (try revert u89); (try revert u90); (try revert u91); (try revert u92); (try revert u93); (try revert u94); (try revert u95); (try revert u96); (try revert u97); (try revert u98); (try revert u99); (try revert u100); (try revert u101); (try revert u102); (try revert u103); (try revert u104); (try revert u105); (try revert u106); (try revert u107); (try revert u108); (try revert u109); (try revert u110); (try revert u111); (try revert u112); (try revert u113); (try revert u114); (try revert u115); (try revert u116); (try revert u117); (try revert u118); (try revert u119); (try revert u120); (try revert u121); (try revert u122); (try revert u123); (try revert u124); (try revert u125); (try revert u126); (try revert u127); (try revert u128); (try revert u129); (try revert u130); (try revert u131); (try revert u132); (try revert u133); (try revert u134); (try revert u135); (try revert u136); (try revert u137); (try revert u138); (try revert u139); (try revert u140); (try revert u141); (try revert u142); (try revert u143); (try revert u144); (try revert u145); (try revert u146); (try revert u147); (try revert u148); (try revert u149); (try revert u150); (try revert u151); (try revert u152); (try revert u153); (try revert u154); (try revert u155); (try revert u156); (try revert u157); (try revert u158); (try revert u159); (try revert u160); (try revert u161); (try revert u162); (try revert u163); (try revert u164); (try revert u165); (try revert u166); (try revert u167); (try revert u168); (try revert u169); (try revert u170); (try revert u171); (try revert u172); (try revert u173); (try revert u174); (try revert u175); (try revert u176); (try revert u177); (try revert u178); (try revert u179); (try revert u180); (try revert u181); (try revert u182); (try revert u183); (try revert u184); (try revert u185); (try revert u186); (try revert u187); (try revert u188); (try revert u189); (try revert u190); (try revert u191); (try revert u192); (try revert u193); (try revert u194); (try revert u195); (try revert u196); (try revert u197); (try revert u198); (try revert u199); (try revert u200); (try revert u201); (try revert u202); (try revert u203); (try revert u204); (try revert u205); (try revert u206); (try revert u207); (try revert u208); (try revert u209); (try revert u210); (try revert u211); (try revert u212); (try revert u213); (try revert u214); (try revert u215); (try revert u216); (try revert u217); (try revert u218); (try revert u219); (try revert u220); (try revert u221); (try revert u222); (try revert u223); (try revert u224); (try revert u225); (try revert u226); (try revert u227); (try revert u228); (try revert u229); (try revert u230); (try revert u231); (try revert u232); (try revert u233); (try revert u234); (try revert u235); (try revert u236); (try revert u237); (try revert u238); (try revert u239); (try revert u240); (try revert u241); (try revert u242); (try revert u243); (try revert u244); (try revert u245); (try revert u246); (try revert u247); (try revert u248); (try revert u249); (try revert u250); (try revert u251); (try revert u252); (try revert u253); (try revert u254); (try revert u255); (try revert u256); (try revert u257); (try revert u258); (try revert u259); (try revert u260); (try revert u261); (try revert u262); (try revert u263); (try revert u264); (try revert u265); (try revert u266); (try revert u267); (try revert u268); (try revert u269); (try revert u270); (try revert u271); (try revert u272); (try revert u273); (try revert u274); (try revert u275); (try revert u276); (try revert u277); (try revert u278); (try revert u279); (try revert u280); (try revert u281); (try revert u282); (try revert u283); (try revert u284); (try revert u285); (try revert u286); (try revert u287); (try revert u288); (try revert u289); (try revert v0); (try revert v1); (try revert v2); (try revert v3); (try revert v4); (try revert v5); (try revert v7); (try revert v8); (try revert v11); (try revert v12); (try revert v13); (try revert v14); (try revert v15); (try revert v16); (try revert v17); (try revert v18); (try revert v19); (try revert v20); (try revert v21); (try revert v22); (try revert v23); (try revert v24); (try revert v25); (try revert v26); (try revert v27); (try revert v28); (try revert v29)
      repeat (rename_i xx; revert xx)
      (try revert A16); (try revert A17); (try revert A18); (try revert A26); (try revert A27); (try revert AI); (try revert AL); (try revert AO); (try revert AP); (try revert AU); (try revert Apart); (try revert BB); (try revert Below); (try revert C16); (try revert C18); (try revert C5); (try revert C6); (try revert CA); (try revert CB); (try revert CELL); (try revert CLF); (try revert CN); (try revert CP); (try revert CT); (try revert CW); (try revert Chg); (try revert Class); (try revert CnEnd); (try revert DLT); (try revert DW); (try revert ENTER); (try revert EW); (try revert F7); (try revert FB); (try revert FC); (try revert FR); (try revert Free); (try revert IFF); (try revert IsFree); (try revert K); (try revert K1); (try revert K16); (try revert K17); (try revert K26); (try revert K27); (try revert K5); (try revert K6); (try revert K7); (try revert KD); (try revert KF); (try revert KX); (try revert LO); (try revert LX); (try revert MD); (try revert Mem); (try revert O10); (try revert O16); (try revert O17); (try revert O26); (try revert O27); (try revert O40); (try revert O41); (try revert Op); (try revert Own); (try revert R); (try revert R1); (try revert R16); (try revert R18); (try revert R5); (try revert R6); (try revert R7); (try revert RF); (try revert RU); (try revert RX); (try revert S1); (try revert S2); (try revert S3); (try revert S4); (try revert S7); (try revert SLW); (try revert SR); (try revert SRow); (try revert T); (try revert T3); (try revert TB); (try revert TBd); (try revert Ti); (try revert U); (try revert UL); (try revert W); (try revert W40); (try revert W41); (try revert Z40); (try revert Z41); (try revert a); (try revert ad); (try revert add); (try revert alloc); (try revert ap); (try revert apart); (try revert app); (try revert app10); (try revert app9); (try revert append); (try revert b); (try revert b6); (try revert base); (try revert bb); (try revert begin); (try revert below); (try revert beq); (try revert blk); (try revert block); (try revert bool); (try revert bx); (try revert c); (try revert c0); (try revert c1); (try revert c10); (try revert c16); (try revert c17); (try revert c18); (try revert c26); (try revert c27); (try revert c5); (try revert c6); (try revert c7); (try revert c9); (try revert cK); (try revert cN); (try revert cO); (try revert cU); (try revert call); (try revert calls); (try revert cap); (try revert cc); (try revert cc3); (try revert cell); (try revert cellAt); (try revert cells); (try revert chg); (try revert cons); (try revert countP); (try revert counts); (try revert cq); (try revert cs10); (try revert cs9); (try revert cu); (try revert cut); (try revert d); (try revert d0); (try revert d1); (try revert d1'); (try revert d2'); (try revert d3'); (try revert d4'); (try revert d9); (try revert dd1); (try revert dd9); (try revert dl); (try revert dl3); (try revert dn); (try revert drew); (try revert drewN); (try revert drop); (try revert e); (try revert e1); (try revert e2); (try revert e3); (try revert eA); (try revert eB); (try revert elem7); (try revert elim); (try revert eq); (try revert ew); (try revert f0); (try revert f1); (try revert fact7); (try revert fail); (try revert fields); (try revert form); (try revert free); (try revert fresh); (try revert g); (try revert g0); (try revert g1); (try revert g10); (try revert g2); (try revert g9); (try revert getD); (try revert goals); (try revert h); (try revert h1); (try revert h1'); (try revert h2); (try revert h2'); (try revert h3); (try revert h3'); (try revert h4); (try revert h4'); (try revert h63); (try revert hU10); (try revert hU9); (try revert hW); (try revert hat16); (try revert hat18); (try revert hba); (try revert hbs); (try revert hby); (try revert hc); (try revert hc16); (try revert hc18); (try revert hcc); (try revert hchg16); (try revert hchg17); (try revert hchg26); (try revert hchg27); (try revert hcl); (try revert hcp); (try revert hcut); (try revert hd); (try revert heap); (try revert held3); (try revert hg); (try revert hg2); (try revert hgc); (try revert hgy); (try revert hi); (try revert hk); (try revert hl); (try revert hlm); (try revert hlt); (try revert hm); (try revert hn); (try revert hn16); (try revert hn17); (try revert hn17'); (try revert hn18); (try revert hn26); (try revert hn27); (try revert hn27'); (try revert ho16); (try revert ho18); (try revert hown16); (try revert hown17); (try revert hown26); (try revert hown27); (try revert hp); (try revert hp'); (try revert hp1); (try revert hp6); (try revert hpp); (try revert hq); (try revert hq'); (try revert hq3); (try revert hr); (try revert hrel); (try revert hs); (try revert hun); (try revert hx); (try revert hy); (try revert hz1); (try revert hz2); (try revert i); (try revert i64); (try revert id); (try revert iff); (try revert int); (try revert isfree); (try revert k); (try revert k0); (try revert k6); (try revert k7); (try revert keep); (try revert kernel); (try revert kind); (try revert l); (try revert l1); (try revert l2); (try revert l9); (try revert later); (try revert law); (try revert le); (try revert len); (try revert lit); (try revert ln); (try revert loopg); (try revert lt); (try revert m); (try revert m1); (try revert made7); (try revert maxLen); (try revert meet); (try revert mem); (try revert mono); (try revert most); (try revert n); (try revert n0); (try revert n1); (try revert n16); (try revert n17); (try revert n18); (try revert n26); (try revert n27); (try revert n80); (try revert ne); (try revert neg); (try revert nil); (try revert nil1); (try revert nil2); (try revert nil3); (try revert nil4); (try revert nq); (try revert nums); (try revert o10); (try revert o9); (try revert oN); (try revert ob); (try revert p); (try revert p0); (try revert p1); (try revert p2); (try revert plain); (try revert pos); (try revert pp); (try revert q); (try revert q0); (try revert q1); (try revert q2); (try revert q3); (try revert qi); (try revert quiet); (try revert r); (try revert r7); (try revert r80); (try revert refl); (try revert region); (try revert rel); (try revert ret); (try revert rg); (try revert roundg); (try revert run1); (try revert run2); (try revert run3); (try revert run4); (try revert s17); (try revert self); (try revert size); (try revert sl); (try revert sl1); (try revert sl2); (try revert sl3); (try revert sl4); (try revert slice); (try revert small); (try revert step); (try revert succ); (try revert symm); (try revert sz7); (try revert t); (try revert t1); (try revert t1'); (try revert t2); (try revert t2'); (try revert t3); (try revert t3c); (try revert t3d); (try revert take); (try revert tb); (try revert tc); (try revert td); (try revert ti); (try revert tmod); (try revert tok); (try revert tz); (try revert u); (try revert u0'); (try revert un); (try revert un80); (try revert und); (try revert upto); (try revert v); (try revert v10); (try revert v6); (try revert v62); (try revert v9); (try revert vc); (try revert vk); (try revert vn); (try revert w); (try revert w'); (try revert w1); (try revert w1'); (try revert w16); (try revert w17); (try revert w18); (try revert w2'); (try revert w26); (try revert w27); (try revert w5); (try revert w6); (try revert w7); (try revert w8); (try revert wa); (try revert wf0); (try revert wn); (try revert wo); (try revert works7); (try revert wp2); (try revert wpList); (try revert wq3); (try revert wq4); (try revert wr); (try revert wrap); (try revert wun); (try revert wx); (try revert x); (try revert x1); (try revert x2); (try revert xl); (try revert y); (try revert y1); (try revert yd); (try revert yl); (try revert ym); (try revert yn); (try revert z1); (try revert z2); (try revert zero); (try revert wb); (try revert wc); (try revert wd); (try revert we); (try revert wf); (try revert wg); (try revert wh); (try revert wi); (try revert wj); (try revert wk); (try revert wl); (try revert wm); (try revert wp); (try revert wq); (try revert ws); (try revert wt); (try revert wu); (try revert wv); (try revert wy); (try revert wz); (try revert hround); (try revert gk); (try revert J); (try revert Q); (try revert K'); (try revert Q'); (try revert u0); (try revert u1); (try revert u2); (try revert u3); (try revert u4); (try revert u5); (try revert u6); (try revert u7); (try revert u8); (try revert u9); (try revert u10); (try revert u11); (try revert u12); (try revert u13); (try revert u14); (try revert u15); (try revert u16); (try revert u17); (try revert u18); (try revert u19); (try revert u20); (try revert u21); (try revert u22); (try revert u23); (try revert u24); (try revert u25); (try revert u26); (try revert u27); (try revert u28); (try revert u29); (try revert u30); (try revert u31); (try revert u32); (try revert u33); (try revert u34); (try revert u35); (try revert u36); (try revert u37); (try revert u38); (try revert u39); (try revert u40); (try revert u41); (try revert u42); (try revert u43); (try revert u44); (try revert u45); (try revert u46); (try revert u47); (try revert u48); (try revert u49); (try revert u50); (try revert u51); (try revert u52); (try revert u53); (try revert u54); (try revert u55); (try revert u56); (try revert u57); (try revert u58); (try revert u59); (try revert u60); (try revert u61); (try revert u62); (try revert u63); (try revert u64); (try revert u65); (try revert u66); (try revert u67); (try revert u68); (try revert u69); (try revert u70); (try revert u71); (try revert u72); (try revert u73); (try revert u74); (try revert u75); (try revert u76); (try revert u77); (try revert u78); (try revert u79); (try revert u80); (try revert u81); (try revert u82); (try revert u83); (try revert u84); (try revert u85); (try revert u86); (try revert u87); (try revert u88); (try revert u89); (try revert u90); (try revert u91); (try revert u92); (try revert u93); (try revert u94); (try revert u95); (try revert u96); (try revert u97); (try revert u98); (try revert u99); (try revert u100); (try revert u101); (try revert u102); (try revert u103); (try revert u104); (try revert u105); (try revert u106); (try revert u107); (try revert u108); (try revert u109); (try revert u110); (try revert u111); (try revert u112); (try revert u113); (try revert u114); (try revert u115); (try revert u116); (try revert u117); (try revert u118); (try revert u119); (try revert u120); (try revert u121); (try revert u122); (try revert u123); (try revert u124); (try revert u125); (try revert u126); (try revert u127); (try revert u128); (try revert u129); (try revert u130); (try revert u131); (try revert u132); (try revert u133); (try revert u134); (try revert u135); (try revert u136); (try revert u137); (try revert u138); (try revert u139); (try revert u140); (try revert u141); (try revert u142); (try revert u143); (try revert u144); (try revert u145); (try revert u146); (try revert u147); (try revert u148); (try revert u149); (try revert u150); (try revert u151); (try revert u152); (try revert u153); (try revert u154); (try revert u155); (try revert u156); (try revert u157); (try revert u158); (try revert u159); (try revert u160); (try revert u161); (try revert u162); (try revert u163); (try revert u164); (try revert u165); (try revert u166); (try revert u167); (try revert u168); (try revert u169); (try revert u170); (try revert u171); (try revert u172); (try revert u173); (try revert u174); (try revert u175); (try revert u176); (try revert u177); (try revert u178); (try revert u179); (try revert u180); (try revert u181); (try revert u182); (try revert u183); (try revert u184); (try revert u185); (try revert u186); (try revert u187); (try revert u188); (try revert u189); (try revert u190); (try revert u191); (try revert u192); (try revert u193); (try revert u194); (try revert u195); (try revert u196); (try revert u197); (try revert u198); (try revert u199); (try revert u200); (try revert u201); (try revert u202); (try revert u203); (try revert u204); (try revert u205); (try revert u206); (try revert u207); (try revert u208); (try revert u209); (try revert u210); (try revert u211); (try revert u212); (try revert u213); (try revert u214); (try revert u215); (try revert u216); (try revert u217); (try revert u218); (try revert u219); (try revert u220); (try revert u221); (try revert u222); (try revert u223); (try revert u224); (try revert u225); (try revert u226); (try revert u227); (try revert u228); (try revert u229); (try revert u230); (try revert u231); (try revert u232); (try revert u233); (try revert u234); (try revert u235); (try revert u236); (try revert u237); (try revert u238); (try revert u239); (try revert u240); (try revert u241); (try revert u242); (try revert u243); (try revert u244); (try revert u245); (try revert u246); (try revert u247); (try revert u248); (try revert u249); (try revert u250); (try revert u251); (try revert u252); (try revert u253); (try revert u254); (try revert u255); (try revert u256); (try revert u257); (try revert u258); (try revert u259); (try revert u260); (try revert u261); (try revert u262); (try revert u263); (try revert u264); (try revert u265); (try revert u266); (try revert u267); (try revert u268); (try revert u269); (try revert u270); (try revert u271); (try revert u272); (try revert u273); (try revert u274); (try revert u275); (try revert u276); (try revert u277); (try revert u278); (try revert u279); (try revert u280); (try revert u281); (try revert u282); (try revert u283); (try revert u284); (try revert u285); (try revert u286); (try revert u287); (try revert u288); (try revert u289); (try revert v0); (try revert v1); (try revert v2); (try revert v3); (try revert v4); (try revert v5); (try revert v7); (try revert v8); (try revert v11); (try revert v12); (try revert v13); (try revert v14); (try revert v15); (try revert v16); (try revert v17); (try revert v18); (try revert v19); (try revert v20); (try revert v21); (try revert v22); (try revert v23); (try revert v24); (try revert v25); (try revert v26); (try revert v27); (try revert v28); (try revert v29)
      repeat (rename_i xx; revert xx)
      have dummy := True.intro
      revert dummy
      exact hR2.out⟩
end Go.Proofs.Ytmffdlebahdihaa.Slab

