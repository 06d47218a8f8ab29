import Derived.Test.YtmffdlebahdihaaGu
import Derived.Deep.DeepCutAuto
import Derived.Deep.CutRange
import Derived.Deep.CutBlock
/- What SlabsMoves does to the lists. -/
namespace Go.Proofs.Ytmffdlebahdihaa.Slab
open Go Go.RowKit Go.Shelf Go.Proofs.Ytmffdlebahdihaa.Mem Go.Proofs.Ytmffdlebahdihaa.CodecPure Go.Proofs.Ytmffdlebahdihaa.ArenaPure Go.Proofs.Ytmffdlebahdihaa.Codec Go.Proofs.Ytmffdlebahdihaa.Arena Go.Proofs.Ytmffdlebahdihaa.Item
set_option linter.unusedVariables false
set_option maxRecDepth 100000
variable {B base b rg r7 : Nat} {w0 w w' : World} {a : Ar} {h : Sh} {s s' t : St} {L M : Nat → List Nat} {c d x p : Nat} {l : List Nat}
def T4 : List Nat := [64, 128, 256, 512]
theorem upN_nos (c : Nat) : upN nos c [] = nos := upN_same nos c
/-- one page, of class c, whose free chunks are l -/
def MI (B base : Nat) (w0 w : World) (a : Ar) (h : Sh) (b rg r7 : Nat) (c : Nat) (l : List Nat) : Prop := ∃ s, BX B base w0 w a h b rg r7 T4 s (upN nos c l) ∧ s.own = [(c : Int)]
/-- the page has not been granted -/
def MZ (B base : Nat) (w0 w : World) (a : Ar) (h : Sh) (b rg r7 : Nat) : Prop := ∃ s, BX B base w0 w a h b rg r7 T4 s nos ∧ s.own = [-1]
theorem MZ.alloc (k : MZ B base w0 w a h b rg r7) (hc : c < 4) : Calls Try.prog 16 #[(.pointer (some ⟨h.b, 0, none⟩)), (.int .i64 ((c : Int)))] w fun e w' => e = .returned (.tuple #[.int .i64 0, .int .i64 0]) ∧ MI B base w0 w' a h b rg r7 c (chl T4 c 0).tail ∧ Chg (S7 a h) w w' := by
  obtain ⟨s, k, ho⟩ := k
  have A := k.sx.alloc_fresh (c := c) hc rfl (by rw [ho]; show first [-1] < 1; decide +kernel)
  rw [ho, show first [-1] = 0 by decide +kernel] at A
  exact A.mono fun e w' hx => by
    obtain ⟨h1, t, h2, h3, -, -, -, -, h4⟩ := k.act2 hx
    exact ⟨h1, ⟨t, h2, h3⟩, h4⟩
theorem MI.next (k : MI B base w0 w a h b rg r7 c (x :: l)) (hc : c < 4) : Calls Try.prog 16 #[(.pointer (some ⟨h.b, 0, none⟩)), (.int .i64 ((c : Int)))] w fun e w' => e = .returned (.tuple #[.int .i64 (x : Int), .int .i64 0]) ∧ MI B base w0 w' a h b rg r7 c l ∧ Chg (S7 a h) w w' := by
  obtain ⟨s, k, ho⟩ := k
  have A := k.sx.alloc_pop (c := c) (x := x) (l := l) hc (by rw [upN_at])
  rw [ho, upN_two] at A
  exact A.mono fun e w' hx => by
    obtain ⟨h1, t, h2, h3, -, -, -, -, h4⟩ := k.act2 hx
    exact ⟨h1, ⟨t, h2, h3⟩, h4⟩
theorem MI.free (k : MI B base w0 w a h b rg r7 c []) (hc : c < 4) (hx : x ∈ chl T4 c 0) : Calls Try.prog 14 #[(.pointer (some ⟨h.b, 0, none⟩)), (.int .i64 ((x : Int)))] w fun e w' => e = .returned (.int .i64 0) ∧ MI B base w0 w' a h b rg r7 c [x] ∧ Chg (S7 a h) w w' := by
  obtain ⟨s, k, ho⟩ := k
  have A := k.sx.free_ok (c := c) (x := x) hc (by rw [ho]; exact chl_chk (by simp) rfl hx) (by rw [upN_at]; exact List.not_mem_nil)
  rw [ho, upN_two, upN_at] at A
  exact A.mono fun e w' hx => by
    obtain ⟨h1, t, h2, h3, -, h4⟩ := k.act1 hx
    exact ⟨h1, ⟨t, h2, h3⟩, h4⟩
theorem MI.busy (k : MI B base w0 w a h b rg r7 c [x]) (hc : c < 4) (hd : d < 4) (hx : x ∈ chl T4 c 0) : Calls Try.prog 24 #[(.pointer (some ⟨h.b, 0, none⟩)), (.int .i64 0), (.int .i64 ((d : Int)))] w fun e w' => e = .returned (.int .i64 8) ∧ MI B base w0 w' a h b rg r7 c [x] ∧ Chg (S7 a h) w w' := by
  obtain ⟨s, k, ho⟩ := k
  have A := k.sx.move_busy (c := c) (d := d) (p := 0) hc hd (by rw [ho]; simp) (by rw [ho]; rfl) (fun q => q x hx (by rw [upN_at]; exact List.mem_cons_self)) (fun _ => False)
  rw [ho] at A
  exact A.mono fun e w' hx => by
    obtain ⟨h1, t, h2, h3, -, h4⟩ := k.act1 hx
    exact ⟨h1, ⟨t, h2, h3⟩, h4⟩
theorem MI.hold (k : MI B base w0 w a h b rg r7 c [x]) (hc : c < 4) : Calls Try.prog 25 #[(.pointer (some ⟨h.b, 0, none⟩)), (.int .i64 ((x : Int)))] w fun e w' => e = .returned (.int .i64 0) ∧ MI B base w0 w' a h b rg r7 c [] ∧ Chg (S7 a h) w w' := by
  obtain ⟨s, k, ho⟩ := k
  have A := k.sx.hold_ok (c := c) (x := x) hc (by rw [upN_at]; exact List.mem_cons_self)
  have e1 : List.filter (nf fun y => decide (y = x)) [x] = [] := List.filter_eq_nil_iff.2 fun y hy => by
    rw [List.mem_singleton.1 hy]
    show ¬ (!decide (x = x)) = true
    simp
  rw [ho, upN_two, upN_at, e1] at A
  exact A.mono fun e w' hx => by
    obtain ⟨h1, t, h2, h3, -, h4⟩ := k.act1 hx
    exact ⟨h1, ⟨t, h2, h3⟩, h4⟩
theorem MI.move (k : MI B base w0 w a h b rg r7 c []) (hc : c < 4) (hd : d < 4) : Calls Try.prog 24 #[(.pointer (some ⟨h.b, 0, none⟩)), (.int .i64 0), (.int .i64 ((d : Int)))] w fun e w' => e = .returned (.int .i64 0) ∧ MI B base w0 w' a h b rg r7 d (chl T4 d 0) ∧ Chg (S7 a h) w w' := by
  obtain ⟨s, k, ho⟩ := k
  rw [upN_nos] at k
  have A := k.sx.move_ok (c := c) (d := d) hc hd (by rw [ho]; simp) (by rw [ho]; rfl) (fun x _ hm => by cases hm)
  rw [ho, show nos d = [] from rfl, List.append_nil] at A
  exact A.mono fun e w' hx => by
    obtain ⟨h1, t, h2, h3, -, h4⟩ := k.act1 hx
    exact ⟨h1, ⟨t, h2, h3⟩, h4⟩
theorem MI.release (k : MI B base w0 w a h b rg r7 c (chl T4 c 0)) (hc : c < 4) : Calls Try.prog 15 #[(.pointer (some ⟨h.b, 0, none⟩)), (.int .i64 0)] w fun e w' => e = .returned (.int .i64 0) ∧ MZ B base w0 w' a h b rg r7 ∧ Chg (S7 a h) w w' := by
  obtain ⟨s, k, ho⟩ := k
  have A := k.sx.release_ok (c := c) (p := 0) hc (by rw [ho]; simp) (by rw [ho]; rfl) (fun x hx => by rw [upN_at]; exact hx)
  have e1 : noPg (upN nos c (chl T4 c 0)) c 0 = nos := by
    unfold noPg
    rw [upN_two, upN_at, List.filter_eq_nil_iff.2 fun y hy => by
      show ¬ (!decide (y / 1024 = 0)) = true
      rw [chl_page hy]; simp, upN_nos]
  rw [ho, e1] at A
  exact A.mono fun e w' hx => by
    obtain ⟨h1, t, h2, h3, -, h4⟩ := k.act1 hx
    exact ⟨h1, ⟨t, h2, h3⟩, h4⟩
theorem MZ.chunks (k : MZ B base w0 w a h b rg r7) : Calls Try.prog 26 #[(.pointer (some ⟨h.b, 0, none⟩)), (.int .i64 0)] w fun e w' => e = .returned (.tuple #[.slice none 0 0, .int .i64 5]) ∧ w' = w := by
  obtain ⟨s, k, ho⟩ := k
  exact chunks_free (p := 0) k.sx.wb k.sx.inv (by rw [ho]; decide) (by rw [ho]; decide)
theorem MI.chunks (k : MI B base w0 w a h b rg r7 c l) (hc : c < 4) : Calls Try.prog 26 #[(.pointer (some ⟨h.b, 0, none⟩)), (.int .i64 0)] w (CkEnd w (chl T4 c 0)) := by
  obtain ⟨s, k, ho⟩ := k
  exact chunks_ok (p := 0) k.sx.wb k.sx.inv hc (by rw [ho]; simp) (by rw [ho]; rfl)
theorem pgs_one (c : Nat) : pgs [(c : Int)] c = 1 := by
  unfold pgs
  rw [List.countP_singleton, if_pos (beq_self_eq_true _)]
theorem MI.counts (k : MI B base w0 w a h b rg r7 c l) (hc : c < 4) : Calls Try.prog 17 #[(.pointer (some ⟨h.b, 0, none⟩)), (.int .i64 ((c : Int)))] w (CnEnd w (l.length : Int) (((1024 / tz T4 c : Nat) : Int) - (l.length : Int)) 1) := by
  obtain ⟨s, k, ho⟩ := k
  have A := counts_calls k.sx.wb k.sx.inv (c := c) hc
  rw [ho, upN_at, pgs_one, Nat.one_mul] at A
  exact A
theorem MI.fresh (k : MI B base w0 w a h b rg r7 c l) (hc : Chg (fun x => base ≤ x) w w') : MI B base w0 w' a h b rg r7 c l := by
  obtain ⟨s, k, ho⟩ := k
  exact ⟨s, k.skip hc, ho⟩
theorem MI.f1 (k : MI B base w0 w a h b rg r7 c l) : w.cell? ⟨b, 1, none⟩ = some (.pointer (some ⟨h.b, 0, none⟩)) := by obtain ⟨s, k, -⟩ := k; exact k.f1
theorem MZ.f1 (k : MZ B base w0 w a h b rg r7) : w.cell? ⟨b, 1, none⟩ = some (.pointer (some ⟨h.b, 0, none⟩)) := by obtain ⟨s, k, -⟩ := k; exact k.f1
theorem MI.bx (k : MI B base w0 w a h b rg r7 c l) : base ≤ w.heap.size ∧ Chg (fun x => B ≤ x) w0 w ∧ ∀ x, S7 a h x → x < base := by obtain ⟨s, k, -⟩ := k; exact ⟨k.sz, k.sx.chg, s7_lt k⟩
theorem MZ.bx (k : MZ B base w0 w a h b rg r7) : base ≤ w.heap.size ∧ Chg (fun x => B ≤ x) w0 w ∧ ∀ x, S7 a h x → x < base := by obtain ⟨s, k, -⟩ := k; exact ⟨k.sz, k.sx.chg, s7_lt k⟩
theorem row_keep {base base' : Nat} {v : Value} {R : List Int} {ty : TypeId} (hs : ∀ x, S7 a h x → x < base) (hb : base ≤ base') (ho : Mem.Own w base' ty .i64 v R) (hc : Chg (S7 a h) w w') : Mem.Own w' base' ty .i64 v R :=
  ho.chg hc fun g hg e => by
    have := hs g e
    have := (World.ownsRow.lt ho g hg).1
    omega
end Go.Proofs.Ytmffdlebahdihaa.Slab

/- The walk of SlabsMoves: a page whose chunks are all used goes to another class. -/
namespace Go.Proofs.Ytmffdlebahdihaa.Slab
open Go Go.RowKit Go.Shelf Go.Proofs.Ytmffdlebahdihaa.Mem Go.Proofs.Ytmffdlebahdihaa.CodecPure Go.Proofs.Ytmffdlebahdihaa.ArenaPure Go.Proofs.Ytmffdlebahdihaa.Codec Go.Proofs.Ytmffdlebahdihaa.Arena Go.Proofs.Ytmffdlebahdihaa.Item
set_option linter.unusedVariables false
set_option maxRecDepth 100000
variable {B base b rg r7 : Nat} {w0 w w' : World} {a : Ar} {h : Sh} {s s' t : St} {L M : Nat → List Nat} {c d x p : Nat} {l : List Nat}
theorem t4_fact : ∀ c, c < 4 → 64 ≤ tz T4 c ∧ tz T4 c ≤ 512 ∧ 2 ≤ 1024 / tz T4 c ∧ 1024 / tz T4 c ≤ 16 ∧ (chl T4 c 0).head? = some 0 ∧ (1024 : Int) / (tz T4 c : Int) = ((1024 / tz T4 c : Nat) : Int) ∧ (1024 : Int).tdiv (tz T4 c : Int) = ((1024 / tz T4 c : Nat) : Int) := by decide +kernel
def MA (B base : Nat) (w0 w : World) (a : Ar) (h : Sh) (b rg r7 c j : Nat) : Prop := (j = 0 ∧ MZ B base w0 w a h b rg r7) ∨ (1 ≤ j ∧ MI B base w0 w a h b rg r7 c ((chl T4 c 0).drop j))
theorem MA.f1 {j : Nat} (k : MA B base w0 w a h b rg r7 c j) : w.cell? ⟨b, 1, none⟩ = some (.pointer (some ⟨h.b, 0, none⟩)) := by
  rcases k with ⟨_, k⟩ | ⟨_, k⟩
  · exact k.f1
  · exact k.f1
theorem MA.bx {j : Nat} (k : MA B base w0 w a h b rg r7 c j) : base ≤ w.heap.size ∧ Chg (fun x => B ≤ x) w0 w ∧ ∀ x, S7 a h x → x < base := by
  rcases k with ⟨_, k⟩ | ⟨_, k⟩
  · exact k.bx
  · exact k.bx
theorem MA.fresh {j : Nat} (k : MA B base w0 w a h b rg r7 c j) (hc : Chg (fun x => base ≤ x) w w') : MA B base w0 w' a h b rg r7 c j := by
  rcases k with ⟨e, s, k, ho⟩ | ⟨e, k⟩
  · exact .inl ⟨e, s, k.skip hc, ho⟩
  · exact .inr ⟨e, k.fresh hc⟩
theorem MA.next {j : Nat} (k : MA B base w0 w a h b rg r7 c j) (hc : c < 4) (hj : j < (chl T4 c 0).length) : Calls Try.prog 16 #[(.pointer (some ⟨h.b, 0, none⟩)), (.int .i64 ((c : Int)))] w fun e w' => e = .returned (.tuple #[.int .i64 ((chl T4 c 0).getD j 0 : Int), .int .i64 0]) ∧ MA B base w0 w' a h b rg r7 c (j + 1) ∧ Chg (S7 a h) w w' := by
  rcases k with ⟨rfl, k⟩ | ⟨h1, k⟩
  · have hd := (t4_fact c hc).2.2.2.2.1
    have e0 : (chl T4 c 0).getD 0 0 = 0 := by
      cases hl : chl T4 c 0 with
      | nil => rfl
      | cons y l =>
        rw [hl] at hd
        injection hd
    rw [e0]
    exact (k.alloc hc).mono fun e w' ⟨h1, h2, h3⟩ => ⟨h1, .inr ⟨Nat.le_refl _, by rw [List.drop_one]; exact h2⟩, h3⟩
  · rw [List.drop_eq_getElem_cons hj] at k
    have e0 : (chl T4 c 0).getD j 0 = (chl T4 c 0)[j] := by rw [List.getD_eq_getElem?_getD, List.getElem?_eq_getElem hj]; rfl
    rw [e0]
    exact (k.next hc).mono fun e w' ⟨h1, h2, h3⟩ => ⟨h1, .inr ⟨by omega, h2⟩, h3⟩
set_option maxHeartbeats 8000000 in
theorem moves_walk (n0 m0 : Int) (A : Option Addr) (c : Nat) (l : List Int) (w : World) (wf0 : (Lit.int .i64 n0).wf = true) (wf1 : (Lit.int .i64 m0).wf = true) (hl : RowOf w .i64 A c l 8) :
    Calls Try.prog 6 #[(.int .i64 n0), (.int .i64 m0), .slice A l.length c] w fun e w' => e = .returned (.bool true) ∧ Below w.heap.size w w' := by
  have hlm : l.length ≤ 9223372036854775807 := Nat.le_trans hl.cap hl.most
  replace hl := Lib.hid hl.sl
  clear wf0 wf1
  obtain ⟨ln, hn⟩ : ∃ n, l.length = n := ⟨_, rfl⟩
  rw [hn] at hlm ⊢
  replace hn := Lib.hid hn
  obtain ⟨cl, hcl, p1, p2⟩ := small n0 4 (by decide)
  replace p1 : (IntKind.u64.wrap n0).tmod 4 = cl := p1
  replace p2 : IntKind.u64.wrap n0 % 4 = cl := p2
  obtain ⟨d, hd, p3, p4⟩ := small m0 4 (by decide)
  replace p3 : (IntKind.u64.wrap m0).tmod 4 = d := p3
  replace p4 : IntKind.u64.wrap m0 % 4 = d := p4
  go_enter Try.func6, Try.ntmps6
  go_wp2_with fail
  refine (works7_calls w).mono ?_
  rintro e wa ⟨rfl, hc⟩
  have CW := Lib.hid hc
  clear hc
  have MD := Lib.hid (made7 (w := wa.alloc (.cells (nums .i64 (Ti T4)).toArray 3)) (p := 1) (T := T4) (by decide) (by decide) (tok_of (by decide +kernel)) wa.heap.size 4 (sl_lit wa .i64 (Ti T4) 3 (0, 0)) (by rw [World.size_alloc]; omega))
  go_wp2_with fail
  refine MD.out.mono ?_
  rintro e w1 hm
  obtain ⟨a, h, b, rg, r7, rfl, k0⟩ := hm.bx
  have CB : Hid (Below w.heap.size w (wa.alloc (.cells (nums .i64 (Ti T4)).toArray 3)) ∧ w.heap.size ≤ (wa.alloc (.cells (nums .i64 (Ti T4)).toArray 3)).heap.size) := ⟨CW.out.alloc CW.out.size _, by have := CW.out.size; rw [World.size_alloc]; omega⟩
  have TB : Hid (∀ W, Chg (fun x => (wa.alloc (.cells (nums .i64 (Ti T4)).toArray 3)).heap.size ≤ x) (wa.alloc (.cells (nums .i64 (Ti T4)).toArray 3)) W → ∀ i, i < 4 → W.cell? ⟨wa.heap.size, i, none⟩ = some (.int .i64 (tz T4 i : Int))) := fun W hW i hi => by
    obtain ⟨ad, e, hc⟩ := sl_lit wa .i64 (Ti T4) 3 (0, 0) i hi
    cases e
    rw [add_plain, Nat.zero_add, ti_at] at hc
    exact hW.cell hc (by show ¬ (wa.alloc _).heap.size ≤ wa.heap.size; rw [World.size_alloc]; omega)
  generalize wa.alloc (.cells (nums .i64 (Ti T4)).toArray 3) = wo at k0 CB TB
  generalize wa.heap.size = tb at TB ⊢
  generalize hbs : w1.heap.size = base at k0
  have L0 : Hid (MA wo.heap.size base wo w1 a h b rg r7 cl 0) := .inl ⟨rfl, _, k0, rfl⟩
  have LO : Hid (∀ W, Chg (fun x => wo.heap.size ≤ x) wo W → Below w.heap.size w W) := fun W hW => CB.out.1.trans (hW.below CB.out.2 fun x hx => by have := CB.out.2; omega)
  have SLW : Hid (∀ W, Chg (fun x => wo.heap.size ≤ x) wo W → Sl W .i64 A l) := fun W hW => hl.out.chg (Chg.of_below (LO.out W hW) : Chg (fun _ => False) w W) fun _ _ => id
  clear MD hm k0 hbs CB CW
  have TF := t4_fact cl hcl
  obtain ⟨z1, z2, q1, q2, -, d1, d2⟩ := TF
  have cl4 : (cl : Int) < 4 := by omega
  have TBc := Lib.hid (fun W hW => TB.out W hW cl hcl)
  have TBd := Lib.hid (fun W hW => TB.out W hW d hd)
  have CLen : Hid ((chl T4 cl 0).length = 1024 / tz T4 cl) := chl_len _ _ _
  generalize tz T4 cl = z at z1 z2 q1 q2 d1 d2 TBc CLen
  generalize 1024 / z = N at q1 q2 d1 d2 CLen
  have z0 : ((z : Int) == 0) = false := by rw [beq_eq_false_iff_ne]; omega
  clear TB p1 p2 p3 p4
  go_wp2_with fail
  go_loopg [11, 12] N (fun m v i wx => ∃ j : Nat, i = .int .i64 j ∧ m = N - j ∧ j ≤ N ∧ Hid (MA wo.heap.size base wo wx a h b rg r7 cl j) ∧ Hid (Mem.Own wx base 3 .i64 v (Ti ((chl T4 cl 0).take j))))
  case atStart => exact ⟨0, rfl, rfl, by omega, L0.out, by rw [List.take_zero]; exact Own.nil _ _ _ _⟩
  case round =>
    clear L0
    obtain ⟨j, rfl, hg, hj, K, O⟩ := hrel
    replace hg := Lib.hid hg
    have f1 := K.out.f1
    have tc := TBc.out wr K.out.bx.2.1
    by_cases h1 : j < N
    · have h1' : (j : Int) < (N : Int) := by omega
      have jl : j < (chl T4 cl 0).length := by rw [CLen.out]; exact h1
      have NX := Lib.hid (K.out.next hcl jl)
      have TK := take_succ_d (chl T4 cl 0) j jl
      have BXX := Lib.hid K.out.bx
      generalize (chl T4 cl 0).getD j 0 = x at NX TK
      replace TK : Hid (Ti ((chl T4 cl 0).take (j + 1)) = Ti ((chl T4 cl 0).take j) ++ [(x : Int)]) := by show _ = _; rw [TK, ti_app]
      have lk : Hid ((Ti ((chl T4 cl 0).take j)).length = j) := by show _ = _; rw [ti_len, List.length_take]; omega
      clear K jl
      go_wp2_with fail
      refine NX.out.mono ?_
      rintro e w2 ⟨rfl, K2, c2⟩
      have O2 := Lib.hid (row_keep BXX.out.2.2 (Nat.le_refl _) O.out c2)
      have sz := Lib.hid K2.bx.1
      replace K2 := Lib.hid K2
      clear f1 NX c2 O tc
      obtain ⟨AG, cG, rfl⟩ := O2.out.form
      rw [lk.out] at O2 ⊢
      go_wp2_with (at_builtin; refine wpList_app rfl _ _ 25 rfl base 3 .i64 8 Try.underlying25 infoInt _ (Ti ((chl T4 cl 0).take j)) rfl (O2.out.chg (Chg.alloc (fun _ => False) w2 (.cells #[.int .i64 (x : Int)] 3)) (fun _ _ => id)) (some ⟨w2.heap.size, 0, none⟩) 1 1 [(x : Int)] rfl rfl (sl_lit w2 .i64 [(x : Int)] 3 (0, 0)) (fun e => by cases e) ?h63 ?hby ?hba ?_; (case h63 => rw [lk.out]; unfold maxLen; omega); (case hby => rw [lk.out]; omega); (case hba => have := sz.out; rw [World.size_alloc]; omega); intro A6 c6 n6 w6 hn6 hown6 hchg6; have K6 : Hid (MA wo.heap.size base wo w6 a h b rg r7 cl (j + 1)) := (K2.out.fresh ((Chg.alloc _ _ _).trans hchg6)); have O6 : Hid (Mem.Own w6 base 3 .i64 (.slice A6 n6 c6) (Ti ((chl T4 cl 0).take (j + 1)))) := (by rw [TK.out]; exact hown6); clear hn6 hown6 hchg6)
      go_roundg (N - (j + 1))
      case measure => have := hg.out; omega
      case rel => exact ⟨j + 1, rfl, rfl, by omega, K6.out, O6.out⟩
    · have h1' : ¬ (j : Int) < (N : Int) := by omega
      obtain rfl : j = N := by omega
      have KM : Hid (MI wo.heap.size base wo wr a h b rg r7 cl []) := by
        rcases K.out with ⟨e, _⟩ | ⟨_, k⟩
        · omega
        · have : (chl T4 cl 0).drop j = [] := List.drop_eq_nil_of_le (by rw [CLen.out]; exact Nat.le_refl _)
          rw [this] at k
          exact k
      have ee : (chl T4 cl 0).take j = chl T4 cl 0 := List.take_of_length_le (by rw [CLen.out]; exact Nat.le_refl _)
      rw [ee] at O
      clear h1 hg hj ee K
      have wn : IntKind.u64.wrap (j : Int) = (j : Int) := by rw [u64_wrap]; omega
      have OL : Hid ((Ti (chl T4 cl 0)).length = j) := by show _ = _; rw [ti_len, CLen.out]
      have d4 : (d : Int) < 4 := by omega
      obtain ⟨AL, cL, rfl⟩ := O.out.form
      rw [OL.out] at O ⊢
      go_upto_block 2 with fail
      go_cut [] (fun wx => Hid (MI wo.heap.size base wo wx a h b rg r7 cl []))
      case first =>
        go_wp2_with fail
        go_loopg [15] 3 (fun m i wx => ∃ (k : Nat), i = .int .i64 k ∧ m = 3 - k ∧ k ≤ 3 ∧ Hid (MI wo.heap.size base wo wx a h b rg r7 cl []) ∧ Hid (Mem.Own wx base 3 .i64 (.slice AL j cL) (Ti (chl T4 cl 0))))
        case atStart => exact ⟨0, rfl, rfl, by omega, KM.out, O.out⟩
        case round =>
          clear KM O f1 tc
          obtain ⟨k, rfl, hg, hk, K, O⟩ := hrel
          replace hg := Lib.hid hg
          by_cases h1 : k < ln
          · have h1' : (k : Int) < (ln : Int) := by omega
            by_cases h2 : k < 3
            · have h2' : (k : Int) < 3 := by omega
              obtain ⟨ad, rfl, cj⟩ := SLW.out wr K.out.bx.2.1 k (by rw [hn.out]; exact h1)
              generalize l.getD k 0 = x at cj
              obtain ⟨q, hq, e1, e2⟩ := small x j (by omega)
              have ql : q < (chl T4 cl 0).length := by rw [CLen.out]; exact hq
              obtain ⟨al, eal, cq⟩ := O.out.sl q (by rw [OL.out]; exact hq)
              have xm : (chl T4 cl 0).getD q 0 ∈ chl T4 cl 0 := by rw [List.getD_eq_getElem?_getD, List.getElem?_eq_getElem ql]; exact List.getElem_mem ql
              rw [show (Ti (chl T4 cl 0)).getD q 0 = (((chl T4 cl 0).getD q 0 : Nat) : Int) from ti_at _ _] at cq
              subst eal
              have FR := Lib.hid (K.out.free hcl xm)
              have MB := Lib.hid (fun W (k : MI wo.heap.size base wo W a h b rg r7 cl [(chl T4 cl 0).getD q 0]) => k.busy hcl hd xm)
              have f1 := K.out.f1
              have hs := Lib.hid K.out.bx.2.2
              generalize (chl T4 cl 0).getD q 0 = y at cq FR MB
              have hq' : (q : Int) < (j : Int) := by omega
              clear xm ql K
              go_wp2_with fail
              refine FR.out.mono ?_
              rintro e w5 ⟨rfl, K5, c5⟩
              have O5 := row_keep hs.out (Nat.le_refl _) O.out c5
              have M5 := Lib.hid (MB.out w5 K5)
              have f1 := K5.f1
              clear FR cj cq O K5 c5 MB
              go_wp2_with fail
              refine M5.out.mono ?_
              rintro e w6 ⟨rfl, K6, c6⟩
              have O6 := row_keep hs.out (Nat.le_refl _) O5 c6
              have f1 := K6.f1
              have H6 := Lib.hid (K6.hold hcl)
              clear M5 K6 c6 O5
              go_wp2_with fail
              refine H6.out.mono ?_
              rintro e w7 ⟨rfl, K7, c7⟩
              have O7 := Lib.hid (row_keep hs.out (Nat.le_refl _) O6 c7)
              replace K7 := Lib.hid K7
              clear H6 c7 O6 f1
              go_wp2_with fail
              go_roundg (3 - (k + 1))
              case measure => have := hg.out; omega
              case rel => exact ⟨k + 1, rfl, rfl, by omega, K7.out, O7.out⟩
            · have h2' : ¬ (k : Int) < 3 := by omega
              go_wp2_with fail
              go_meet
              exact K.out
          · have h1' : ¬ (k : Int) < (ln : Int) := by omega
            go_wp2_with fail
            go_meet
            exact K.out
      case rest =>
        clear KM O f1 tc
        have f1 := hcut.out.f1
        have M0 := Lib.hid (hcut.out.move hcl hd)
        have TF := t4_fact d hd
        obtain ⟨y1, y2, r1, r2, y3, y4, y5⟩ := TF
        have DLen : Hid ((chl T4 d 0).length = 1024 / tz T4 d) := chl_len _ _ _
        have CNT := Lib.hid (fun W l (k : MI wo.heap.size base wo W a h b rg r7 d l) => k.counts hd)
        have C0 : Hid ((Ti (chl T4 d 0)).getD 0 0 = 0) := by
          show _ = _
          rw [ti_at]
          unfold tz
          cases hh : chl T4 d 0 with
          | nil => rfl
          | cons y l => rw [hh] at y3; injection y3 with y3; subst y3; rfl
        clear hcut wn z1 z2 z0 d1 d2 TBc CLen OL y3
        generalize tz T4 d = z at y1 y2 r1 r2 y4 y5 DLen TBd CNT
        generalize 1024 / z = N at r1 r2 y4 y5 DLen CNT
        have z0 : ((z : Int) == 0) = false := by rw [beq_eq_false_iff_ne]; omega
        go_wp2_with fail
        refine M0.out.mono ?_
        rintro e w5 ⟨rfl, K5, -⟩
        have f1 := K5.f1
        have R5 := Lib.hid (K5.release hd)
        clear M0 K5
        go_wp2_with fail
        refine R5.out.mono ?_
        rintro e w6 ⟨rfl, K6, -⟩
        have f1 := K6.f1
        have CH := Lib.hid K6.chunks
        have AL := Lib.hid (K6.alloc hd)
        clear R5 K6
        go_wp2_with fail
        refine CH.out.mono ?_
        rintro e w7 ⟨rfl, rfl⟩
        clear CH
        go_wp2_with fail
        refine AL.out.mono ?_
        rintro e w8 ⟨rfl, K8, -⟩
        have f1 := K8.f1
        have CK := Lib.hid (K8.chunks hd)
        have CN8 := Lib.hid K8
        clear AL K8
        go_wp2_with fail
        unfold CkEnd at CK
        refine CK.out.mono ?_
        rintro e w9 ⟨A9, q9, rfl, o9, c9⟩
        have K9 := CN8.out.fresh (c9.mono fun _ _ q => q.elim)
        have f1 := K9.f1
        have CT := CNT.out w9 _ K9
        rw [List.length_tail, DLen.out] at CT
        rw [DLen.out] at o9 ⊢
        have td := TBd.out w9 K9.bx.2.1
        have nz : ((N - 1 : Nat) : Int) = (N : Int) - 1 := by omega
        rw [nz] at CT
        have e1 : (N : Int) - ((N : Int) - 1) = 1 := by omega
        rw [e1] at CT
        have BW := Lib.hid (LO.out w9 K9.bx.2.1)
        replace CT := Lib.hid CT
        replace o9 := Lib.hid o9
        clear CK CN8 c9 K9 CNT nz e1
        go_wp2_with fail
        unfold CnEnd at CT
        refine CT.out.mono ?_
        rintro e w10 ⟨rfl, c10⟩
        have td := c10.cell td id
        obtain ⟨ad, e9, c0⟩ := o9.out.sl 0 (by rw [ti_len, DLen.out]; omega)
        have c0' := c10.cell c0 id
        rw [C0.out] at c0'
        subst e9
        obtain ⟨-, -, ead⟩ := o9.out.base ad rfl
        rw [ead] at c0' ⊢
        rw [add_plain] at c0'
        generalize ad.block = g9 at c0' ⊢
        have BW2 : Hid (Below w.heap.size w w10) := BW.out.trans (c10.below BW.out.size fun _ h => h.elim)
        clear c10 c0 CT o9 f1 ead
        go_wp2_with fail
        go_ret
        exact ⟨rfl, BW2.out⟩
end Go.Proofs.Ytmffdlebahdihaa.Slab

