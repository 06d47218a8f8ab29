import Derived.Test.YtmffdlebahdihaaGu
import Derived.Test.YtmffdlebahdihaaGc
import Derived.Test.YtmffdlebahdihaaGb
import Derived.Deep.DeepCutAuto
import Derived.Deep.CutRange
import Derived.Deep.CutBlock
/- What SlabsOwn does: a chunk that is used keeps its bytes. -/
namespace Go.Proofs.Ytmffdlebahdihaa.Slab
open Go Go.RowKit Go.Shelf Go.Proofs.Ytmffdlebahdihaa.Mem Go.Proofs.Ytmffdlebahdihaa.CodecPure Go.Proofs.Ytmffdlebahdihaa.ArenaPure Go.Proofs.Ytmffdlebahdihaa.Codec Go.Proofs.Ytmffdlebahdihaa.Arena Go.Proofs.Ytmffdlebahdihaa.Item
set_option linter.unusedVariables false
set_option maxRecDepth 100000
variable {B base b rg r7 : Nat} {w0 w w' : World} {a : Ar} {h : Sh} {s s' t : St} {T : List Nat} {L M : Nat → List Nat} {c d x p : Nat} {E : Nat → Prop} {v : Value} {e : Ending} {X : List Int}
def T2 : List Nat := [64, 200]
/-- the chunk at 0 is used, and holds X -/
structure OI (B base : Nat) (w0 w : World) (a : Ar) (h : Sh) (b rg r7 : Nat) (X : List Int) : Prop where
  ex : ∃ s L, BX B base w0 w a h b rg r7 T2 s L ∧ Chk s.own T2 0 0 ∧ 0 ∉ L 0 ∧ got s 0 64 = X
theorem OI.of (k : BX B base w0 w a h b rg r7 T2 t M) (hk : Chk s.own T2 0 0) (hn : 0 ∉ L 0) (hg : got s 0 64 = X) (hf : Fr T2 s L t M E) (hE : ¬ E 0) : OI B base w0 w a h b rg r7 X := by
  obtain ⟨f1, f2, f3⟩ := hf 0 (by decide) 0 hk hn hE
  exact ⟨_, _, k, f1, f2, f3.trans hg⟩
/-- and so is the chunk at x, of class c, which holds noughts -/
structure OX (B base : Nat) (w0 w : World) (a : Ar) (h : Sh) (b rg r7 : Nat) (X : List Int) (c x : Nat) : Prop where
  ex : ∃ s L, BX B base w0 w a h b rg r7 T2 s L ∧ Chk s.own T2 0 0 ∧ 0 ∉ L 0 ∧ got s 0 64 = X ∧ Chk s.own T2 c x ∧ x ∉ L c ∧ got s (x : Int) (tz T2 c) = zs (tz T2 c)
  ne : x ≠ 0
  lt : x < 32768
theorem own_first (k : BX B base w0 w a h b rg r7 T2 (new 4) nos) : Calls Try.prog 16 #[(.pointer (some ⟨h.b, 0, none⟩)), (.int .i64 0)] w fun e w' => e = .returned (.tuple #[.int .i64 0, .int .i64 0]) ∧ ∃ s L, BX B base w0 w' a h b rg r7 T2 s L ∧ Chk s.own T2 0 0 ∧ 0 ∉ L 0 := by
  have A := k.sx.alloc_fresh (c := 0) (by decide) rfl (by decide +kernel)
  rw [show 1024 * first (new 4).own = 0 by decide +kernel] at A
  exact A.mono fun e w' hx => by
    obtain ⟨h1, t, h2, h3, -, -, h4, h5, -⟩ := k.act2 hx
    exact ⟨h1, t, _, h2, by rw [h3]; exact h4, h5⟩
theorem own_text (k : BX B base w0 w a h b rg r7 T2 s L) (hk : Chk s.own T2 0 0) (hn : 0 ∉ L 0) (hb : Bytes X) (hl : X.length = 64) (A : Option Addr) (q : Nat) (hs : Sl w .u8 A X) :
    Calls Try.prog 22 #[(.pointer (some ⟨a.g, 0, none⟩)), (.int .i64 0), .slice A 64 q] w fun e w' => e = .returned (.int .i64 0) ∧ OI B base w0 w' a h b rg r7 X ∧ Chg (S7 a h) w w' := by
  have P := k.write (c := 0) (x := 0) (by decide) hk hn hb (by rw [hl]; decide) A q hs
  rw [hl] at P
  refine P.mono fun e w' ⟨h1, t, h2, h3, h4, h5, h6⟩ => ⟨h1, ⟨t, _, h2, by rw [h3]; exact hk, hn, h5⟩, h6⟩
theorem OI.f1 (k : OI B base w0 w a h b rg r7 X) : w.cell? ⟨b, 1, none⟩ = some (.pointer (some ⟨h.b, 0, none⟩)) := by obtain ⟨s, L, k, -⟩ := k.ex; exact k.f1
theorem OI.f0 (k : OI B base w0 w a h b rg r7 X) : w.cell? ⟨b, 0, none⟩ = some (.pointer (some ⟨a.g, 0, none⟩)) := by obtain ⟨s, L, k, -⟩ := k.ex; exact k.f0
theorem OI.bx (k : OI B base w0 w a h b rg r7 X) : base ≤ w.heap.size ∧ Chg (fun x => B ≤ x) w0 w ∧ ∀ x, S7 a h x → x < base := by obtain ⟨s, L, k, -⟩ := k.ex; exact ⟨k.sz, k.sx.chg, s7_lt k⟩
theorem OI.skip (k : OI B base w0 w a h b rg r7 X) (hc : Chg (fun x => base ≤ x) w w') : OI B base w0 w' a h b rg r7 X := by obtain ⟨s, L, k, h1⟩ := k.ex; exact ⟨s, L, k.skip hc, h1⟩
theorem OX.f0 (k : OX B base w0 w a h b rg r7 X c x) : w.cell? ⟨b, 0, none⟩ = some (.pointer (some ⟨a.g, 0, none⟩)) := by obtain ⟨s, L, k, -⟩ := k.ex; exact k.f0
theorem OX.bx (k : OX B base w0 w a h b rg r7 X c x) : base ≤ w.heap.size ∧ Chg (fun x => B ≤ x) w0 w ∧ ∀ x, S7 a h x → x < base := by obtain ⟨s, L, k, -⟩ := k.ex; exact ⟨k.sz, k.sx.chg, s7_lt k⟩
theorem OX.skip (k : OX B base w0 w a h b rg r7 X c x) (hc : Chg (fun x => base ≤ x) w w') : OX B base w0 w' a h b rg r7 X c x := by obtain ⟨s, L, k1, h1⟩ := k.ex; exact ⟨⟨s, L, k1.skip hc, h1⟩, k.ne, k.lt⟩
theorem OI.alloc (k : OI B base w0 w a h b rg r7 X) (hc : c < 2) : Calls Try.prog 16 #[(.pointer (some ⟨h.b, 0, none⟩)), (.int .i64 ((c : Int)))] w fun e w' =>
    (∃ x : Nat, e = .returned (.tuple #[.int .i64 (x : Int), .int .i64 0]) ∧ OX B base w0 w' a h b rg r7 X c x ∧ Chg (S7 a h) w w') ∨ (e = .returned (.tuple #[.int .i64 0, .int .i64 2]) ∧ OI B base w0 w' a h b rg r7 X ∧ Chg (S7 a h) w w') := by
  obtain ⟨s, L, k, hk, hn, hg⟩ := k.ex
  refine (k.alloc (c := c) hc).mono fun e w' hx => ?_
  rcases hx with ⟨x, t, M, h1, h2, h3, h4, h5, h6, h7, h8⟩ | ⟨h1, -, -, t, h2, -, h3, h4⟩
  · obtain ⟨f1, f2, f3⟩ := h3 0 (by decide) 0 hk hn id
    exact .inl ⟨x, h1, ⟨⟨t, M, h2, f1, f2, f3.trans hg, h4, h5, h6⟩, fun q => h7 0 (by decide) 0 hk hn q.symm, h2.sx.inv.lt h4⟩, h8⟩
  · exact .inr ⟨h1, .of h2 hk hn hg h3 id, h4⟩
theorem t2_fact : ∀ c, c < 2 → (tz T2 c : Int) = 64 + 136 * (c : Int) ∧ 64 ≤ tz T2 c ∧ tz T2 c ≤ 200 := by decide
theorem OX.read (k : OX B base w0 w a h b rg r7 X c x) (hc : c < 2) : Calls Try.prog 23 #[(.pointer (some ⟨a.g, 0, none⟩)), (.int .i64 ((x : Int))), (.int .i64 ((tz T2 c : Int)))] w fun e w' => ∃ A q, e = .returned (.tuple #[.slice A (tz T2 c) q, .int .i64 0]) ∧ Sl w' .u8 A (zs (tz T2 c)) ∧ Chg (fun _ => False) w w' := by
  obtain ⟨s, L, k, -, -, -, h4, h5, h6⟩ := k.ex
  have P := k.read (c := c) hc h4
  rw [h6] at P
  refine P.mono fun e w' ⟨A, q, h1, h2, h3⟩ => ⟨A, q, by rw [h1, zs_len], h2.sl, h3⟩
theorem OX.write (k : OX B base w0 w a h b rg r7 X c x) (hc : c < 2) {m : Nat} (hm : m ≤ tz T2 c) (A : Option Addr) (q : Nat) (hs : Sl w .u8 A (zs m)) : Calls Try.prog 22 #[(.pointer (some ⟨a.g, 0, none⟩)), (.int .i64 ((x : Int))), .slice A m q] w fun e w' => (∃ v, e = .returned v) ∧ OI B base w0 w' a h b rg r7 X ∧ Chg (S7 a h) w w' := by
  obtain ⟨s, L, k1, h1, h2, h3, h4, h5, h6⟩ := k.ex
  have P := k1.write (c := c) hc h4 h5 (zs_bytes m) (by rw [zs_len]; exact hm) A q hs
  rw [zs_len] at P
  have ne := k.ne
  exact P.mono fun e w' ⟨g1, t, g2, g3, g4, g5, g6⟩ => ⟨⟨_, g1⟩, .of g2 h1 h2 h3 g4 (fun q => ne q.symm), g6⟩
theorem OI.free (k : OI B base w0 w a h b rg r7 X) (y : Int) (hy : -9223372036854775808 ≤ y ∧ y ≤ 9223372036854775807) (h0 : y ≠ 0) : Calls Try.prog 14 #[(.pointer (some ⟨h.b, 0, none⟩)), (.int .i64 y)] w fun e w' => (∃ v, e = .returned v) ∧ OI B base w0 w' a h b rg r7 X ∧ Chg (S7 a h) w w' := by
  obtain ⟨s, L, k, hk, hn, hg⟩ := k.ex
  exact (k.free y hy).mono fun e w' ⟨n, t, M, g1, g2, g3, g4⟩ => ⟨⟨_, g1⟩, .of g2 hk hn hg g3 (fun q => h0 q.symm), g4⟩
theorem OI.release (k : OI B base w0 w a h b rg r7 X) (y : Int) : Calls Try.prog 15 #[(.pointer (some ⟨h.b, 0, none⟩)), (.int .i64 y)] w fun e w' => (∃ v, e = .returned v) ∧ OI B base w0 w' a h b rg r7 X ∧ Chg (S7 a h) w w' := by
  obtain ⟨s, L, k, hk, hn, hg⟩ := k.ex
  exact (k.release y).mono fun e w' ⟨n, t, M, g1, g2, g3, g4⟩ => ⟨⟨_, g1⟩, .of g2 hk hn hg g3 id, g4⟩
theorem OI.read (k : OI B base w0 w a h b rg r7 X) (hX : X.length = 64) : Calls Try.prog 23 #[(.pointer (some ⟨a.g, 0, none⟩)), (.int .i64 0), (.int .i64 64)] w fun e w' => ∃ A q, e = .returned (.tuple #[.slice A 64 q, .int .i64 0]) ∧ Sl w' .u8 A X ∧ Chg (fun _ => False) w w' := by
  obtain ⟨s, L, k, hk, hn, hg⟩ := k.ex
  have P := k.read (c := 0) (by decide) hk
  rw [show got s ((0 : Nat) : Int) (tz T2 0) = X from hg, hX] at P
  exact P.mono fun e w' ⟨A, q, h1, h2, h3⟩ => ⟨A, q, h1, h2.sl, h3⟩
theorem OI.isfree (k : OI B base w0 w a h b rg r7 X) : Calls Try.prog 20 #[(.pointer (some ⟨h.b, 0, none⟩)), (.int .i64 0)] w (FrEnd w false) := by
  obtain ⟨s, L, k, hk, hn, hg⟩ := k.ex
  have P := isfree_ok k.sx.wb k.sx.inv (c := 0) (x := 0) (by decide) hk
  rw [decide_eq_false hn] at P
  exact P
end Go.Proofs.Ytmffdlebahdihaa.Slab

/- The walk of SlabsOwn. -/
namespace Go.Proofs.Ytmffdlebahdihaa.Slab
open Go Go.RowKit Go.Shelf Go.Proofs.Ytmffdlebahdihaa.Mem Go.Proofs.Ytmffdlebahdihaa.CodecPure Go.Proofs.Ytmffdlebahdihaa.ArenaPure Go.Proofs.Ytmffdlebahdihaa.Codec Go.Proofs.Ytmffdlebahdihaa.Arena Go.Proofs.Ytmffdlebahdihaa.Item
set_option linter.unusedVariables false
set_option maxRecDepth 100000
variable {B base b rg r7 : Nat} {w0 w w' : World} {a : Ar} {h : Sh} {s s' t : St} {T : List Nat} {L M : Nat → List Nat} {c d x p : Nat} {E : Nat → Prop} {v : Value} {e : Ending} {X : List Int}
structure OS (B base : Nat) (w0 w : World) (a : Ar) (h : Sh) (b rg r7 : Nat) : Prop where
  ex : ∃ s L, BX B base w0 w a h b rg r7 T2 s L ∧ Chk s.own T2 0 0 ∧ 0 ∉ L 0
theorem OS.f0 (k : OS B base w0 w a h b rg r7) : w.cell? ⟨b, 0, none⟩ = some (.pointer (some ⟨a.g, 0, none⟩)) := by obtain ⟨s, L, k, -⟩ := k.ex; exact k.f0
theorem OS.skip (k : OS B base w0 w a h b rg r7) (hc : Chg (fun x => base ≤ x) w w') : OS B base w0 w' a h b rg r7 := by obtain ⟨s, L, k, h1⟩ := k.ex; exact ⟨s, L, k.skip hc, h1⟩
theorem OS.text (k : OS B base w0 w a h b rg r7) (hb : Bytes X) (hl : X.length = 64) (A : Option Addr) (q : Nat) (hs : Sl w .u8 A X) :
    Calls Try.prog 22 #[(.pointer (some ⟨a.g, 0, none⟩)), (.int .i64 0), .slice A 64 q] w fun e w' => e = .returned (.int .i64 0) ∧ OI B base w0 w' a h b rg r7 X ∧ Chg (S7 a h) w w' := by
  obtain ⟨s, L, k, h1, h2⟩ := k.ex
  exact own_text k h1 h2 hb hl A q hs
theorem bytes_set {R : List Int} (hb : Bytes R) (j : Nat) (v : Int) : Bytes (R.set j (v % 256)) := fun x hx => by
  rcases List.mem_or_eq_of_mem_set hx with hx | rfl
  · exact hb x hx
  · omega
set_option maxHeartbeats 8000000 in
theorem own_walk (A : Option Addr) (c : Nat) (l : List (List Int)) (n0 : Int) (w : World) (hl : SRow w [.i64, .i64, .i64] A c l) (wf0 : (Lit.int .i64 n0).wf = true) :
    Calls Try.prog 5 #[.slice A l.length c, (.int .i64 n0)] w fun e w' => e = .returned (.bool true) ∧ Below w.heap.size w w' := by
  have hlm : l.length ≤ 9223372036854775807 := Nat.le_trans hl.cap hl.most
  replace hl := Lib.hid hl
  clear wf0
  obtain ⟨ln, hn⟩ : ∃ n, l.length = n := ⟨_, rfl⟩
  rw [hn] at hlm ⊢
  replace hn := Lib.hid hn
  go_enter Try.func5, Try.ntmps5
  go_wp2_with fail
  refine (works7_calls w).mono ?_
  rintro e wa ⟨rfl, hc⟩
  have CW := Lib.hid hc
  clear hc
  have MD := Lib.hid (made7 (w := wa.alloc (.cells (nums .i64 (Ti T2)).toArray 3)) (p := 4) (T := T2) (by decide) (by decide) (tok_of (by decide +kernel)) wa.heap.size 2 (sl_lit wa .i64 (Ti T2) 3 (0, 0)) (by rw [World.size_alloc]; omega))
  go_wp2_with fail
  refine MD.out.mono ?_
  rintro e w1 hm
  obtain ⟨a, h, b, rg, r7, rfl, k0⟩ := hm.bx
  have CB : Hid (Below w.heap.size w (wa.alloc (.cells (nums .i64 (Ti T2)).toArray 3)) ∧ w.heap.size ≤ (wa.alloc (.cells (nums .i64 (Ti T2)).toArray 3)).heap.size) := ⟨CW.out.alloc CW.out.size _, by have := CW.out.size; rw [World.size_alloc]; omega⟩
  generalize wa.alloc (.cells (nums .i64 (Ti T2)).toArray 3) = wo at k0 CB
  generalize hbs : w1.heap.size = base at k0
  have LO : Hid (∀ W, Chg (fun x => wo.heap.size ≤ x) wo W → Below w.heap.size w W) := fun W hW => CB.out.1.trans (hW.below CB.out.2 fun x hx => by have := CB.out.2; omega)
  have SLW : Hid (∀ W, Chg (fun x => wo.heap.size ≤ x) wo W → SRow W [.i64, .i64, .i64] A c l) := fun W hW => hl.out.chg (Chg.of_below (LO.out W hW) : Chg (fun b => w.heap.size ≤ b) w W) (Nat.le_refl _)
  have f1 := k0.f1
  have A0 := Lib.hid (own_first k0)
  have mk : ∀ W : World, (Instr.makeSlice 48 (.int .i64 64) (.int .i64 64)).run Try.prog W = .ok (.slice (some ⟨W.heap.size, 0, none⟩) 64 64) (W.alloc (.cells (nums .u8 (List.replicate 64 0)).toArray 5)) := fun W => make_bytes 64 (by decide) W
  clear MD hm k0 hbs CB CW hl
  go_wp2_with fail
  refine A0.out.mono ?_
  rintro e w2 ⟨rfl, s2, L2, k2, h3, h4⟩
  have szb := k2.sz
  have K2 : Hid (OS wo.heap.size base wo (w2.alloc (.cells (nums .u8 (List.replicate 64 0)).toArray 5)) a h b rg r7) := ⟨_, _, k2.fresh (Chg.alloc (fun _ => False) _ _), h3, h4⟩
  have O2 : Hid (Mem.Own (w2.alloc (.cells (nums .u8 (List.replicate 64 0)).toArray 5)) base 5 .u8 (.slice (some ⟨w2.heap.size, 0, none⟩) 64 64) (List.replicate 64 0)) := (Own.lit w2 5 .u8 (List.replicate 64 0) (by unfold maxLen; rw [List.length_replicate]; omega)).mono szb
  have B0 : Hid (Bytes (List.replicate 64 (0 : Int)) ∧ (List.replicate 64 (0 : Int)).length = 64) := ⟨fun x hx => by have := List.eq_of_mem_replicate hx; omega, List.length_replicate⟩
  have sz2 : Hid (base ≤ w2.heap.size) := szb
  generalize List.replicate 64 (0 : Int) = R0 at mk O2 B0 K2
  clear A0 k2 h3 h4 f1 szb
  go_wp2_with fail
  generalize w2.alloc (.cells (nums .u8 R0).toArray 5) = w3 at O2 K2 ⊢
  generalize w2.heap.size = tb at O2 sz2 ⊢
  clear mk
  go_loopg [11] 64 (fun m i wx => ∃ (j : Nat) (R : List Int), i = .int .i64 j ∧ m = 64 - j ∧ j ≤ 64 ∧ Hid (Bytes R ∧ R.length = 64) ∧ Hid (OS wo.heap.size base wo wx a h b rg r7) ∧ Hid (Mem.Own wx base 5 .u8 (.slice (some ⟨tb, 0, none⟩) 64 64) R))
  case atStart => exact ⟨0, R0, rfl, rfl, by omega, B0.out, K2.out, O2.out⟩
  case round =>
    clear B0 K2 O2
    obtain ⟨j, R, rfl, hg, hj, BR, K, O⟩ := hrel
    replace hg := Lib.hid hg
    by_cases h1 : j < 64
    · have h1' : (j : Int) < 64 := by omega
      obtain ⟨cj, fj⟩ := O.out.cellAt j (by rw [BR.out.2]; exact h1)
      go_wp2_with fail
      go_roundg (64 - (j + 1))
      case measure => have := hg.out; omega
      case rel => exact ⟨j + 1, _, rfl, rfl, by omega, ⟨bytes_set BR.out.1 j _, by rw [List.length_set]; exact BR.out.2⟩, K.out.skip (Chg.setCell _ _ _ sz2.out), O.out.setc j (by rw [BR.out.2]; exact h1) _⟩
    · have h1' : ¬ (j : Int) < 64 := by omega
      have f0 := K.out.f0
      have TX := Lib.hid (K.out.text BR.out.1 BR.out.2 (some ⟨tb, 0, none⟩) 64 O.out.sl)
      clear h1 hg hj K
      go_wp2_with fail
      refine TX.out.mono ?_
      rintro e w4 ⟨rfl, K4, c4⟩
      have O4 : Hid (Mem.Own w4 base 5 .u8 (.slice (some ⟨tb, 0, none⟩) 64 64) R) := O.out.chg c4 fun g hg e => by
        have := K4.bx.2.2 g e
        have := (World.ownsRow.lt O.out g hg).1
        omega
      replace K4 := Lib.hid K4
      clear TX c4 f0 O
      go_upto_block 2 with fail
      go_cut [] (fun wx => Hid (OI wo.heap.size base wo wx a h b rg r7 R) ∧ Hid (Mem.Own wx base 5 .u8 (.slice (some ⟨tb, 0, none⟩) 64 64) R))
      case first =>
        go_wp2_with fail
        go_loopg [12] 60 (fun m i wx => ∃ (k : Nat), i = .int .i64 k ∧ m = 60 - k ∧ k ≤ 60 ∧ Hid (OI wo.heap.size base wo wx a h b rg r7 R) ∧ Hid (Mem.Own wx base 5 .u8 (.slice (some ⟨tb, 0, none⟩) 64 64) R))
        case atStart => exact ⟨0, rfl, rfl, by omega, K4.out, O4.out⟩
        case round =>
          clear K4 O4
          obtain ⟨k, rfl, hg, hk, K, O⟩ := hrel
          replace hg := Lib.hid hg
          by_cases h1 : k < ln
          · have h1' : (k : Int) < (ln : Int) := by omega
            by_cases h2 : k < 60
            · have h2' : (k : Int) < 60 := by omega
              have SR := SLW.out wr K.out.bx.2.1
              have wf1 : -9223372036854775808 ≤ (l.getD k []).getD 1 0 ∧ (l.getD k []).getD 1 0 ≤ 9223372036854775807 := by
                have := SR.wf k (by rw [hn.out]; exact h1) 1 .i64 rfl
                have h2 : IntKind.i64.min = -9223372036854775808 := by decide
                simpa [Lit.wf, h2] using this
              obtain ⟨ad, rfl, d0, d1⟩ := SR.fields k (by rw [hn.out]; exact h1) (by decide)
              have g0 := d0 .i64 rfl
              have g1 := d1 0 .i64 rfl
              have g2 := d1 1 .i64 rfl
              simp only [List.length_cons, List.length_nil, Nat.reduceAdd, Nat.zero_add] at g0 g1 g2
              clear d0 d1 SR
              generalize (l.getD k []).getD 0 0 = kind at g0
              generalize (l.getD k []).getD 1 0 = x1 at g1 wf1
              generalize (l.getD k []).getD 2 0 = x2 at g2
              replace wf1 := Lib.hid wf1
              have FB : Hid ((wr.alloc (.cells #[.int .i64 kind, .int .i64 x1, .int .i64 x2] 30)).heap[wr.heap.size]? = some (.cells #[.int .i64 kind, .int .i64 x1, .int .i64 x2] 30 (0, 0))) := heap_alloc_at _ _
              have CA : Hid (Chg (fun _ => False) wr (wr.alloc (.cells #[.int .i64 kind, .int .i64 x1, .int .i64 x2] 30))) := Chg.alloc _ _ _
              have K5 := Lib.hid (K.out.skip (CA.out.mono fun _ _ q => q.elim))
              have O5 := Lib.hid (O.out.chg CA.out fun _ _ => id)
              have c1 := K5.out.f1
              have c0 := K5.out.f0
              by_cases e0 : kind = 0
              · have t0 : (kind == 0) = true := by rw [e0]; rfl
                clear e0
                obtain ⟨cc, hcc, q1, q2⟩ := small x1 2 (by decide)
                replace q1 : (IntKind.u64.wrap x1).tmod 2 = cc := q1
                replace q2 : IntKind.u64.wrap x1 % 2 = cc := q2
                have AL := Lib.hid (K5.out.alloc hcc)
                have hs := Lib.hid K5.out.bx.2.2
                clear K O
                go_wp2_with fail
                clear g0 g1 g2
                generalize wr.alloc (.cells #[.int .i64 kind, .int .i64 x1, .int .i64 x2] 30) = w5 at FB CA K5 O5 c1 c0 AL ⊢
                refine AL.out.mono ?_
                rintro e w6 (⟨x, rfl, X6, c6⟩ | ⟨rfl, K6, c6⟩)
                · have O6 : Hid (Mem.Own w6 base 5 .u8 (.slice (some ⟨tb, 0, none⟩) 64 64) R) := O5.out.chg c6 fun g hg e => by
                    have := hs.out g e
                    have := (World.ownsRow.lt O5.out g hg).1
                    omega
                  have f0 := X6.f0
                  have RD := X6.read hcc
                  have zf := t2_fact cc hcc
                  have WR := Lib.hid (fun W (k : OX wo.heap.size base wo W a h b rg r7 R cc x) A q hs => k.write (m := tz T2 cc - 1) hcc (Nat.sub_le _ _) A q hs)
                  rw [zf.1] at RD
                  obtain ⟨zf1, zf2, zf3⟩ := zf
                  have xb : (x : Int) ≤ 32768 := by have := X6.lt; omega
                  have x0 : ((x : Int) == 0) = false := by rw [beq_eq_false_iff_ne]; have := X6.ne; omega
                  replace X6 := Lib.hid X6
                  generalize tz T2 cc = z at RD WR zf1 zf2 zf3
                  replace RD := Lib.hid RD
                  have cc2 : (cc : Int) < 2 := by omega
                  clear AL c6 c1 c0 K5 O5 CA FB
                  obtain ⟨m, hm⟩ : ∃ m, z - 1 = m := ⟨_, rfl⟩
                  rw [hm] at WR
                  have zm : (64 + 136 * (cc : Int)) - 1 = (m : Int) := by omega
                  have m1 : 1 ≤ m := by omega
                  have m2 : m ≤ 1000 := by omega
                  clear hm
                  go_wp2_with fail
                  refine RD.out.mono ?_
                  rintro e w7 ⟨A7, q7, rfl, s7, c7⟩
                  have X7 := Lib.hid (X6.out.skip (c7.mono fun _ _ q => q.elim))
                  have O7 := Lib.hid (O6.chg c7 fun _ _ => id)
                  have S7' := Lib.hid s7
                  clear RD X6 O6 s7 c7 f0
                  go_wp2_with fail
                  go_loopg [20] z (fun g i wx => ∃ (y : Nat), i = .int .i64 y ∧ g = z - y ∧ y ≤ z ∧ Hid (wx = w7))
                  case atStart => exact ⟨0, rfl, rfl, by omega, rfl⟩
                  case round =>
                    obtain ⟨y, rfl, hgy, hy, E⟩ := hrel
                    have ew := E.out
                    by_cases h3 : y < z
                    · have h3' : (y : Int) < (z : Int) := by omega
                      obtain ⟨ad7, rfl, cy⟩ := S7'.out y (by rw [zs_len]; exact h3)
                      have ey : (zs z).getD y 0 = 0 := by unfold zs; rw [List.getD_eq_getElem?_getD, List.getElem?_replicate, if_pos h3]; rfl
                      rw [ey, ← ew] at cy
                      replace hgy := Lib.hid hgy
                      clear ey ew
                      go_wp2_with fail
                      go_roundg (z - (y + 1))
                      case measure => have := hgy.out; omega
                      case rel => exact ⟨y + 1, rfl, rfl, by omega, E.out⟩
                    · have h3' : ¬ (y : Int) < (z : Int) := by omega
                      obtain rfl : y = z := by omega
                      have d0 := X7.out.f0
                      have WR7 := Lib.hid (fun W (hc : Chg (fun _ => False) w7 W) A q hs => WR.out W (X7.out.skip (hc.mono fun _ _ q => q.elim)) A q hs)
                      have f07 := Lib.hid (fun W (k : OI wo.heap.size base wo W a h b rg r7 R) => k.f0)
                      have hs7 := Lib.hid X7.out.bx.2.2
                      rw [← ew] at d0 WR7 O7
                      clear E ew S7' WR X7 h3 hgy
                      go_wp2_with fail
                      rw [show (64 + 136 * (cc : Int)) = (y : Int) from zf1.symm]
                      have zm2 : (y : Int) - 1 = (m : Int) := by omega
                      clear zf1 zm
                      have wm : IntKind.i64.wrap (m : Int) = (m : Int) := IntWalk.i64_in _ (by omega)
                      have C8 : Hid (Chg (fun _ => False) wr (wr.alloc (.cells #[] 5)).drew) := (Chg.alloc _ _ _).trans (Chg.drew _ _)
                      go_region_held3 (fun w' => w'.cell? ⟨b, 0, none⟩ = some (.pointer (some ⟨a.g, 0, none⟩))) (go_keep)
                        (first
                          | (refine step_make (by rfl) _ _ (by rfl) _ m m1 m2 (by rfl) (by first | rfl | exact Eq.trans (by rfl) (congrArg (Value.int .i64) wm)) ?_; intro k9 c9 w9 s9 g9 l9; have C9 : Hid (Chg (fun _ => False) wr w9) := (C8.out.trans g9); have P9 := Lib.hid s9; have d9 : w9.cell? ⟨b, 0, none⟩ = some (.pointer (some ⟨a.g, 0, none⟩)) := (C9.out.cell d0 id); clear s9 g9 l9; skip)
                          | (go_at_call 22; refine (WR7.out _ C9.out _ _ P9.out).mono ?_; rintro e wA ⟨⟨vA, rfl⟩, kA, cA⟩; have dA := f07.out _ kA; have KA := Lib.hid kA; have OA : Hid (Mem.Own wA base 5 .u8 (.slice (some ⟨tb, 0, none⟩) 64 64) R) := ((O7.out.chg C9.out fun _ _ => id).chg cA fun g hg e => (by have h1 := hs7.out g e; have h2 := (World.ownsRow.lt O7.out g hg).1; omega)); clear kA cA; skip))
                      go_wp2_with fail
                      go_roundg (60 - (k + 1))
                      case measure => have := hg.out; omega
                      case rel => exact ⟨k + 1, rfl, rfl, by omega, KA.out, OA.out⟩
                · have O6 : Hid (Mem.Own w6 base 5 .u8 (.slice (some ⟨tb, 0, none⟩) 64 64) R) := O5.out.chg c6 fun g hg e => by
                    have := hs.out g e
                    have := (World.ownsRow.lt O5.out g hg).1
                    omega
                  replace K6 := Lib.hid K6
                  clear AL c6 c1 c0 K5 O5 CA FB
                  go_wp2_with fail
                  go_roundg (60 - (k + 1))
                  case measure => have := hg.out; omega
                  case rel => exact ⟨k + 1, rfl, rfl, by omega, K6.out, O6.out⟩
              · have t0 : (kind == 0) = false := by rw [beq_eq_false_iff_ne]; exact e0
                have hs := Lib.hid K5.out.bx.2.2
                have gN : (wr.alloc (.cells #[.int .i64 kind, .int .i64 x1, .int .i64 x2] 30)).cell? ⟨wr.heap.size, 1, none⟩ = some (.int .i64 x1) := by rw [blk_cell FB.out]; rfl
                have oN : Hid (¬ S7 a h wr.heap.size) := fun q => by have := K.out.bx.2.2 _ q; have := K.out.bx.1; omega
                have KEEP : Hid (∀ w6, Chg (S7 a h) (wr.alloc (.cells #[.int .i64 kind, .int .i64 x1, .int .i64 x2] 30)) w6 → w6.cell? ⟨wr.heap.size, 1, none⟩ = some (.int .i64 x1) ∧ Mem.Own w6 base 5 .u8 (.slice (some ⟨tb, 0, none⟩) 64 64) R) := fun w6 c6 => ⟨c6.cell gN oN.out, O5.out.chg c6 fun g hg e => by
                    have := hs.out g e
                    have := (World.ownsRow.lt O5.out g hg).1
                    omega⟩
                clear e0 K O
                by_cases e1 : kind = 1
                · have t1 : (kind == 1) = true := by rw [e1]; rfl
                  clear e1
                  by_cases x0 : x1 = 0
                  · have tx : (x1 == 0) = true := by rw [x0]; rfl
                    clear x0
                    go_wp2_with fail
                    go_roundg (60 - (k + 1))
                    case measure => have := hg.out; omega
                    case rel => exact ⟨k + 1, rfl, rfl, by omega, K5.out, O5.out⟩
                  · have tx : (x1 == 0) = false := by rw [beq_eq_false_iff_ne]; exact x0
                    have FR := Lib.hid ((K5.out.skip (Chg.drew _ _)).free x1 wf1.out x0)
                    have KD : Hid (Chg (S7 a h) (wr.alloc (.cells #[.int .i64 kind, .int .i64 x1, .int .i64 x2] 30)) (wr.alloc (.cells #[.int .i64 kind, .int .i64 x1, .int .i64 x2] 30)).drew) := Chg.drew _ _
                    clear x0
                    go_wp2_with fail
                    clear g0 g1 g2
                    generalize wr.alloc (.cells #[.int .i64 kind, .int .i64 x1, .int .i64 x2] 30) = w5 at FB CA K5 O5 c1 c0 FR KEEP gN KD ⊢
                    generalize wr.heap.size = ob at FB gN KEEP oN ⊢
                    go_region_held3 (fun w' => w'.cell? ⟨b, 1, none⟩ = some (.pointer (some ⟨h.b, 0, none⟩)) ∧ w'.cell? ⟨ob, 1, none⟩ = some (.int .i64 x1)) (go_keep)
                      (first
                        | (go_at_call 14; refine FR.out.mono ?_; rintro e w6 ⟨⟨v6, rfl⟩, k6, c6⟩; have d1 := k6.f1; have dn := KEEP.out w6 (KD.out.trans c6); have O6 := Lib.hid dn.2; replace dn := dn.1; have K6 := Lib.hid k6; clear k6 c6; skip))
                    go_wp2_with fail
                    go_roundg (60 - (k + 1))
                    case measure => have := hg.out; omega
                    case rel => exact ⟨k + 1, rfl, rfl, by omega, K6.out, O6.out⟩
                · have t1 : (kind == 1) = false := by rw [beq_eq_false_iff_ne]; exact e1
                  have FR := Lib.hid ((K5.out.skip (Chg.drew _ _)).release x1)
                  have KD : Hid (Chg (S7 a h) (wr.alloc (.cells #[.int .i64 kind, .int .i64 x1, .int .i64 x2] 30)) (wr.alloc (.cells #[.int .i64 kind, .int .i64 x1, .int .i64 x2] 30)).drew) := Chg.drew _ _
                  clear e1
                  go_wp2_with fail
                  clear g0 g1 g2
                  generalize wr.alloc (.cells #[.int .i64 kind, .int .i64 x1, .int .i64 x2] 30) = w5 at FB CA K5 O5 c1 c0 FR KEEP gN KD ⊢
                  generalize wr.heap.size = ob at FB gN KEEP oN ⊢
                  go_region_held3 (fun w' => w'.cell? ⟨b, 1, none⟩ = some (.pointer (some ⟨h.b, 0, none⟩)) ∧ w'.cell? ⟨ob, 1, none⟩ = some (.int .i64 x1)) (go_keep)
                    (first
                      | (go_at_call 15; refine FR.out.mono ?_; rintro e w6 ⟨⟨v6, rfl⟩, k6, c6⟩; have d1 := k6.f1; have dn := KEEP.out w6 (KD.out.trans c6); have O6 := Lib.hid dn.2; replace dn := dn.1; have K6 := Lib.hid k6; clear k6 c6; skip))
                  go_wp2_with fail
                  go_roundg (60 - (k + 1))
                  case measure => have := hg.out; omega
                  case rel => exact ⟨k + 1, rfl, rfl, by omega, K6.out, O6.out⟩
            · have h2' : ¬ (k : Int) < 60 := by omega
              go_wp2_with fail
              go_meet
              exact ⟨K.out, O.out⟩
          · have h1' : ¬ (k : Int) < (ln : Int) := by omega
            go_wp2_with fail
            go_meet
            exact ⟨K.out, O.out⟩
      case rest =>
        clear K4 O4
        obtain ⟨K, O⟩ := hcut
        have c0 := K.out.f0
        have RD := Lib.hid (K.out.read BR.out.2)
        go_wp2_with fail
        refine RD.out.mono ?_
        rintro e w5 ⟨A5, q5, rfl, s5, c5⟩
        have K5 := K.out.skip (c5.mono fun _ _ q => q.elim)
        have O5 := O.out.chg c5 fun _ _ => id
        have c1 := K5.f1
        have kc1 : (Go.convert 48 9 (.slice A5 64 q5)).run Try.prog w5 = .ok (.string (strOfNums R)) w5 := by
          have := conv_sl (c := q5) Try.underlying48 Try.underlying5 Try.underlying9 s5
          rw [BR.out.2] at this
          exact this
        have kc2 : (Go.convert 48 9 (.slice (some ⟨tb, 0, none⟩) 64 64)).run Try.prog w5 = .ok (.string (strOfNums R)) w5 := by
          have := conv_sl (c := 64) Try.underlying48 Try.underlying5 Try.underlying9 O5.sl
          rw [BR.out.2] at this
          exact this
        have IF := Lib.hid K5.isfree
        have F5 := Lib.hid (LO.out w5 K5.bx.2.1)
        generalize strOfNums R = str at kc1 kc2
        clear RD K O s5 c5 K5 O5 c0
        go_wp2_with fail
        refine IF.out.mono ?_
        rintro e w6 ⟨rfl, c6⟩
        have F6 : Hid (Below w.heap.size w w6) := F5.out.trans (c6.below F5.out.size fun _ h => h.elim)
        clear c6 IF c1 kc1 kc2
        go_wp2_with fail
        go_ret
        exact ⟨rfl, F6.out⟩
end Go.Proofs.Ytmffdlebahdihaa.Slab

