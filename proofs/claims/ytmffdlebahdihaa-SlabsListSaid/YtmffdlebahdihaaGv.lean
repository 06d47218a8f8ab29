import Derived.Test.YtmffdlebahdihaaGu
import Derived.Deep.DeepCutAuto
import Derived.Deep.CutRange
import Derived.Deep.CutBlock
/- The walk of SlabsList: chunks that were freed come again, the last one first; then those that were never used. -/
namespace Go.Proofs.Ytmffdlebahdihaa.Slab
open Go Go.RowKit Go.Shelf Go.Proofs.Ytmffdlebahdihaa.Mem Go.Proofs.Ytmffdlebahdihaa.CodecPure Go.Proofs.Ytmffdlebahdihaa.ArenaPure Go.Proofs.Ytmffdlebahdihaa.Codec Go.Proofs.Ytmffdlebahdihaa.Arena Go.Proofs.Ytmffdlebahdihaa.Item
set_option linter.unusedVariables false
set_option maxRecDepth 100000
variable {B base b rg r7 : Nat} {w0 w w' : World} {a : Ar} {h : Sh} {s s' t : St} {T : List Nat} {L M : Nat → List Nat} {H : List Int} {c d x p : Nat} {f : Nat → Bool} {own : List Int} {E : Nat → Prop} {v : Value} {e : Ending}
def T1 : List Nat := [64]
def C1 : List Nat := chl T1 0 0
theorem c1_at : ∀ i, i < 16 → C1.drop i = 64 * i :: C1.drop (i + 1) := by decide +kernel
theorem c1_ge : ∀ i, i ≤ 16 → ∀ x ∈ C1.drop i, 64 * i ≤ x := by decide +kernel
/-- the first i chunks have been allocated -/
def LI (B base : Nat) (w0 w : World) (a : Ar) (h : Sh) (b rg r7 : Nat) (i : Nat) : Prop :=
  ∃ s L, BX B base w0 w a h b rg r7 T1 s L ∧ ((i = 0 ∧ s.own = [-1] ∧ L = nos) ∨ (1 ≤ i ∧ s.own = [0] ∧ L = upN nos 0 (C1.drop i)))
theorem LI.next {i : Nat} (k : LI B base w0 w a h b rg r7 i) (hi : i < 16) : Calls Try.prog 16 #[(.pointer (some ⟨h.b, 0, none⟩)), (.int .i64 0)] w fun e w' => e = .returned (.tuple #[.int .i64 (64 * (i : Int)), .int .i64 0]) ∧ LI B base w0 w' a h b rg r7 (i + 1) := by
  obtain ⟨s, L, k, ⟨rfl, ho, rfl⟩ | ⟨h1, ho, rfl⟩⟩ := k
  · have A := k.sx.alloc_fresh (c := 0) (by decide) rfl (by rw [ho]; decide +kernel)
    rw [ho, show 1024 * first [-1] = 0 by decide +kernel, show ([-1] : List Int).set (first [-1]) ((0 : Nat) : Int) = [0] by decide +kernel, show (chl T1 0 (first [-1])).tail = C1.drop 1 by decide +kernel] at A
    exact A.mono fun e w' hx => by
      obtain ⟨h1, t, h2, h3, -⟩ := k.act2 hx
      exact ⟨h1, t, _, h2, .inr ⟨Nat.le_refl _, h3, rfl⟩⟩
  · have A := k.sx.alloc_pop (c := 0) (x := 64 * i) (l := C1.drop (i + 1)) (by decide) (by rw [upN_at]; exact c1_at i hi)
    rw [ho, upN_two] at A
    exact A.mono fun e w' hx => by
      obtain ⟨h1, t, h2, h3, -⟩ := k.act2 hx
      exact ⟨by rw [h1]; congr 1, t, _, h2, .inr ⟨by omega, h3, rfl⟩⟩
/-- n have been allocated, those of V (the last one first) freed again -/
structure LF (B base : Nat) (w0 w : World) (a : Ar) (h : Sh) (b rg r7 : Nat) (n : Nat) (V : List Nat) : Prop where
  ex : ∃ s, BX B base w0 w a h b rg r7 T1 s (upN nos 0 (V.map (64 * ·) ++ C1.drop n)) ∧ s.own = [0]
  nd : V.Nodup
  lt : ∀ v ∈ V, v < n
theorem LF.skip {n : Nat} {V : List Nat} (k : LF B base w0 w a h b rg r7 n V) (hc : Chg (fun x => base ≤ x) w w') : LF B base w0 w' a h b rg r7 n V := by
  obtain ⟨s, h1, h2⟩ := k.ex
  exact ⟨⟨s, h1.skip hc, h2⟩, k.nd, k.lt⟩
theorem mem64 {V : List Nat} {x : Nat} : 64 * x ∈ V.map (64 * ·) ↔ x ∈ V := by
  rw [List.mem_map]
  exact ⟨fun ⟨y, hy, e⟩ => by have : y = x := by omega
                              exact this ▸ hy, fun hx => ⟨x, hx, rfl⟩⟩
theorem LF.free {n x : Nat} {V : List Nat} (k : LF B base w0 w a h b rg r7 n V) (hn : n ≤ 16) (hx : x < n) : Calls Try.prog 14 #[(.pointer (some ⟨h.b, 0, none⟩)), (.int .i64 ((64 * (x : Int))))] w fun e w' => e = .returned (.int .i64 (if x ∈ V then 4 else 0)) ∧ LF B base w0 w' a h b rg r7 n (if x ∈ V then V else x :: V) ∧ Chg (S7 a h) w w' := by
  obtain ⟨s, k1, ho⟩ := k.ex
  have ex : (64 * (x : Int)) = ((64 * x : Nat) : Int) := by omega
  rw [ex]
  by_cases hm : x ∈ V
  · rw [if_pos hm, if_pos hm]
    exact (k1.sx.free_twice (c := 0) (x := 64 * x) (by decide) (by rw [upN_at]; exact List.mem_append_left _ (mem64.2 hm)) (fun _ => False)).mono fun e w' hx => by
      obtain ⟨h1, t, h2, h3, -, h4⟩ := k1.act1 hx
      exact ⟨h1, ⟨⟨t, h2, h3.trans ho⟩, k.nd, k.lt⟩, h4⟩
  · rw [if_neg hm, if_neg hm]
    have hk : Chk s.own T1 0 (64 * x) := by
      rw [ho]
      refine ⟨?_, ?_, ?_, ?_⟩
      · show 64 * x / 1024 < 1; omega
      · rw [show 64 * x / 1024 = 0 by omega]; rfl
      · show 64 * x % 1024 % 64 = 0; omega
      · show 64 * x % 1024 + 64 ≤ 1024; omega
    have hnm : 64 * x ∉ upN nos 0 (V.map (64 * ·) ++ C1.drop n) 0 := by
      rw [upN_at, List.mem_append]
      intro q
      rcases q with q | q
      · exact hm (mem64.1 q)
      · have := c1_ge n hn _ q; omega
    have P := k1.sx.free_ok (c := 0) (x := 64 * x) (by decide) hk hnm
    rw [upN_two, upN_at] at P
    exact P.mono fun e w' hx => by
      obtain ⟨h1, t, h2, h3, -, h4⟩ := k1.act1 hx
      refine ⟨h1, ⟨⟨t, h2, h3.trans ho⟩, List.nodup_cons.2 ⟨hm, k.nd⟩, fun v hv => ?_⟩, h4⟩
      rcases List.mem_cons.1 hv with rfl | hv
      · assumption
      · exact k.lt v hv
/-- the list L is left of the free ones -/
def LG (B base : Nat) (w0 w : World) (a : Ar) (h : Sh) (b rg r7 : Nat) (l : List Nat) : Prop := ∃ s, BX B base w0 w a h b rg r7 T1 s (upN nos 0 l) ∧ s.own = [0]
theorem LG.next {l : List Nat} (k : LG B base w0 w a h b rg r7 (x :: l)) : Calls Try.prog 16 #[(.pointer (some ⟨h.b, 0, none⟩)), (.int .i64 0)] w fun e w' => e = .returned (.tuple #[.int .i64 (x : Int), .int .i64 0]) ∧ LG B base w0 w' a h b rg r7 l ∧ Chg (S7 a h) w w' := by
  obtain ⟨s, k, ho⟩ := k
  have A := k.sx.alloc_pop (c := 0) (x := x) (l := l) (by decide) (by rw [upN_at])
  rw [ho, upN_two] at A
  exact A.mono fun e w' hx => by
    obtain ⟨h1, t, h2, h3, -, -, -, -, h4⟩ := k.act2 hx
    exact ⟨h1, ⟨t, h2, h3⟩, h4⟩
theorem LG.full (k : LG B base w0 w a h b rg r7 []) : Calls Try.prog 16 #[(.pointer (some ⟨h.b, 0, none⟩)), (.int .i64 0)] w fun e w' => e = .returned (.tuple #[.int .i64 0, .int .i64 2]) ∧ LG B base w0 w' a h b rg r7 [] ∧ Chg (S7 a h) w w' := by
  obtain ⟨s, k, ho⟩ := k
  have A := k.sx.alloc_full (c := 0) (by decide) (by rw [upN_at]) (by rw [ho]; decide +kernel) (fun _ => False)
  rw [ho] at A
  exact A.mono fun e w' hx => by
    obtain ⟨h1, t, h2, h3, -, h4⟩ := k.act1 hx
    exact ⟨h1, ⟨t, h2, h3⟩, h4⟩
theorem LG.skip {l : List Nat} (k : LG B base w0 w a h b rg r7 l) (hc : Chg (fun x => base ≤ x) w w') : LG B base w0 w' a h b rg r7 l := by
  obtain ⟨s, h1, h2⟩ := k
  exact ⟨s, h1.skip hc, h2⟩
end Go.Proofs.Ytmffdlebahdihaa.Slab

/- The walk of SlabsList. -/
namespace Go.Proofs.Ytmffdlebahdihaa.Slab
open Go Go.RowKit Go.Shelf Go.Proofs.Ytmffdlebahdihaa.Mem Go.Proofs.Ytmffdlebahdihaa.CodecPure Go.Proofs.Ytmffdlebahdihaa.ArenaPure Go.Proofs.Ytmffdlebahdihaa.Codec Go.Proofs.Ytmffdlebahdihaa.Arena Go.Proofs.Ytmffdlebahdihaa.Item
set_option linter.unusedVariables false
set_option maxRecDepth 100000
theorem ti_map (V l : List Nat) : Ti (V ++ l) = Ti V ++ Ti l := by unfold Ti; rw [List.map_append]
theorem c1_take : ∀ j, j < 16 → ∀ n, n ≤ j → (C1.drop n).take (j + 1 - n) = (C1.drop n).take (j - n) ++ [64 * j] := by decide +kernel
theorem LI.done {B base b rg r7 n : Nat} {w0 w : World} {a : Ar} {h : Sh} (k : LI B base w0 w a h b rg r7 n) (hn : 1 ≤ n) : LF B base w0 w a h b rg r7 n [] := by
  obtain ⟨s, L, k, ⟨rfl, _⟩ | ⟨_, ho, rfl⟩⟩ := k
  · omega
  · exact ⟨⟨s, k, ho⟩, List.nodup_nil, fun v hv => by cases hv⟩
theorem LF.f1 {B base b rg r7 n : Nat} {w0 w : World} {a : Ar} {h : Sh} {V : List Nat} (k : LF B base w0 w a h b rg r7 n V) : w.cell? ⟨b, 1, none⟩ = some (.pointer (some ⟨h.b, 0, none⟩)) := by obtain ⟨s, k, -⟩ := k.ex; exact k.f1
theorem LG.f1 {B base b rg r7 : Nat} {w0 w : World} {a : Ar} {h : Sh} {l : List Nat} (k : LG B base w0 w a h b rg r7 l) : w.cell? ⟨b, 1, none⟩ = some (.pointer (some ⟨h.b, 0, none⟩)) := by obtain ⟨s, k, -⟩ := k; exact k.f1
theorem LF.row {B base b rg r7 n base' : Nat} {w0 w w' : World} {a : Ar} {h : Sh} {V : List Nat} {v : Value} {l : List Int} {ty : TypeId} (k : LF B base w0 w a h b rg r7 n V) (hb : base ≤ base') (ho : Mem.Own w base' ty .i64 v l) (hc : Chg (S7 a h) w w') : Mem.Own w' base' ty .i64 v l := by
  obtain ⟨s, k, -⟩ := k.ex; exact k.row hb ho hc
theorem LG.row {B base b rg r7 base' : Nat} {w0 w w' : World} {a : Ar} {h : Sh} {L : List Nat} {v : Value} {l : List Int} {ty : TypeId} (k : LG B base w0 w a h b rg r7 L) (hb : base ≤ base') (ho : Mem.Own w base' ty .i64 v l) (hc : Chg (S7 a h) w w') : Mem.Own w' base' ty .i64 v l := by
  obtain ⟨s, k, -⟩ := k; exact k.row hb ho hc
theorem LF.chg {B base b rg r7 n : Nat} {w0 w : World} {a : Ar} {h : Sh} {V : List Nat} (k : LF B base w0 w a h b rg r7 n V) : Chg (fun x => B ≤ x) w0 w := by obtain ⟨s, k, -⟩ := k.ex; exact k.sx.chg
theorem LF.sz {B base b rg r7 n : Nat} {w0 w : World} {a : Ar} {h : Sh} {V : List Nat} (k : LF B base w0 w a h b rg r7 n V) : base ≤ w.heap.size := by obtain ⟨s, k, -⟩ := k.ex; exact k.sz
theorem LG.sz {B base b rg r7 : Nat} {w0 w : World} {a : Ar} {h : Sh} {l : List Nat} (k : LG B base w0 w a h b rg r7 l) : base ≤ w.heap.size := by obtain ⟨s, k, -⟩ := k; exact k.sz
theorem LG.chg {B base b rg r7 : Nat} {w0 w : World} {a : Ar} {h : Sh} {l : List Nat} (k : LG B base w0 w a h b rg r7 l) : Chg (fun x => B ≤ x) w0 w := by obtain ⟨s, k, -⟩ := k; exact k.sx.chg
theorem map64_len (V : List Nat) : (Ti (V.map (64 * ·))).length = V.length := by rw [ti_len, List.length_map]
set_option maxHeartbeats 4000000 in
theorem list_walk (n0 : Int) (A : Option Addr) (c : Nat) (l : List Int) (w : World) (wf0 : (Lit.int .i64 n0).wf = true) (hl : RowOf w .i64 A c l 8) :
    Calls Try.prog 4 #[(.int .i64 n0), .slice A l.length c] w fun e w' => e = .returned (.bool true) ∧ Below w.heap.size w w' := by
  have hlm : l.length ≤ 9223372036854775807 := Nat.le_trans hl.cap hl.most
  replace hl := Lib.hid hl.sl
  clear wf0
  obtain ⟨ln, hn⟩ : ∃ n, l.length = n := ⟨_, rfl⟩
  rw [hn] at hlm ⊢
  replace hn := Lib.hid hn
  obtain ⟨p, hp, p1, p2⟩ := small n0 15 (by decide)
  replace p1 : (IntKind.u64.wrap n0).tmod 15 = p := p1
  replace p2 : IntKind.u64.wrap n0 % 15 = p := p2
  obtain ⟨n, hnp⟩ : ∃ n, 1 + p = n := ⟨_, rfl⟩
  have hnp' : (1 : Int) + p = n := by omega
  have hn15 : n ≤ 15 := by omega
  have hn1 : 1 ≤ n := by omega
  go_enter Try.func4, Try.ntmps4
  go_wp2_with fail
  refine (works7_calls w).mono ?_
  rintro e wa ⟨rfl, hc⟩
  have CW := Lib.hid hc
  clear hc
  have MD := Lib.hid (made7 (w := wa.alloc (.cells (nums .i64 (Ti T1)).toArray 3)) (p := 1) (T := T1) (by decide) (by decide) (tok_of (by decide +kernel)) wa.heap.size 1 (sl_lit wa .i64 (Ti T1) 3 (0, 0)) (by rw [World.size_alloc]; omega))
  go_wp2_with fail
  refine MD.out.mono ?_
  rintro e w1 hm
  obtain ⟨a, h, b, rg, r7, rfl, k0⟩ := hm.bx
  have CB : Hid (Below w.heap.size w (wa.alloc (.cells (nums .i64 (Ti T1)).toArray 3)) ∧ w.heap.size ≤ (wa.alloc (.cells (nums .i64 (Ti T1)).toArray 3)).heap.size) := ⟨CW.out.alloc CW.out.size _, by have := CW.out.size; rw [World.size_alloc]; omega⟩
  generalize wa.alloc (.cells (nums .i64 (Ti T1)).toArray 3) = wo at k0 CB
  generalize hbs : w1.heap.size = base at k0
  have L0 : Hid (LI wo.heap.size base wo w1 a h b rg r7 0) := ⟨_, _, k0, .inl ⟨rfl, rfl, rfl⟩⟩
  have SL1 : Hid (Sl w1 .i64 A l) := hl.out.chg (CB.out.1.trans (k0.below (Nat.le_refl _) |> fun hb => ⟨hb.os, hb.tape, hb.output, hb.size, fun i hi => hb.block i (by have := CB.out.2; omega)⟩) |> fun hb => (Chg.of_below hb : Chg (fun _ => False) w w1)) fun _ _ => id
  have LO : Hid (∀ W, Chg (fun x => wo.heap.size ≤ x) wo W → Below w.heap.size w W) := fun W hW => CB.out.1.trans (hW.below CB.out.2 fun x hx => by have := CB.out.2; omega)
  clear MD hm k0 hbs CB
  go_wp2_with fail
  clear p1 p2 hnp hnp' hp
  go_loopg [8] n (fun m v wr => ∃ j : Nat, v = .int .i64 j ∧ m = n - j ∧ j ≤ n ∧ Hid (LI wo.heap.size base wo wr a h b rg r7 j))
  case atStart => exact ⟨0, rfl, rfl, by omega, L0.out⟩
  case round =>
    clear L0
    obtain ⟨j, rfl, hg, hj, K⟩ := hrel
    replace hg := Lib.hid hg
    by_cases h1 : j < n
    · have h1' : (j : Int) < (n : Int) := by omega
      have f1 : wr.cell? ⟨b, 1, none⟩ = some (.pointer (some ⟨h.b, 0, none⟩)) := by obtain ⟨s, L, k, -⟩ := K.out; exact k.f1
      have NX := Lib.hid (K.out.next (by omega))
      have ne : ((64 * (j : Int)) != 64 * (j : Int)) = false := by simp
      clear K
      go_wp2_with fail
      refine NX.out.mono ?_
      rintro e w2 ⟨rfl, K2⟩
      replace K2 := Lib.hid K2
      clear f1 NX
      go_wp2_with fail
      go_roundg (n - (j + 1))
      case measure => have := hg.out; omega
      case rel => exact ⟨j + 1, rfl, rfl, by omega, K2.out⟩
    · have h1' : ¬ (j : Int) < (n : Int) := by omega
      obtain rfl : j = n := by omega
      clear h1 hg hj
      have F0 := Lib.hid (K.out.done hn1)
      clear K
      have wn : IntKind.u64.wrap (j : Int) = (j : Int) := by rw [u64_wrap]; omega
      have SLW : Hid (∀ W, Chg (fun x => wo.heap.size ≤ x) wo W → Sl W .i64 A l) := fun W hW => hl.out.chg (Chg.of_below (LO.out W hW) : Chg (fun _ => False) w W) fun _ _ => id
      go_upto_block 2 with fail
      go_cut [11] (fun v wx => ∃ V : List Nat, Hid (LF wo.heap.size base wo wx a h b rg r7 j V) ∧ Hid (Mem.Own wx base 3 .i64 v (Ti (V.map (64 * ·)))))
      case first =>
        go_wp2_with fail
        go_loopg [11, 12] 20 (fun m v i wx => ∃ (k : Nat) (V : List Nat), i = .int .i64 k ∧ m = 20 - k ∧ k ≤ 20 ∧ Hid (LF wo.heap.size base wo wx a h b rg r7 j V) ∧ Hid (Mem.Own wx base 3 .i64 v (Ti (V.map (64 * ·)))))
        case atStart => exact ⟨0, [], rfl, rfl, by omega, F0.out, Own.nil _ _ _ _⟩
        case round =>
          clear F0
          obtain ⟨k, V, rfl, hg, hk, F, O⟩ := hrel
          replace hg := Lib.hid hg
          by_cases h1 : k < ln
          · have h1' : (k : Int) < (ln : Int) := by omega
            by_cases h2 : k < 20
            · have h2' : (k : Int) < 20 := by omega
              obtain ⟨ad, rfl, cj⟩ := SLW.out wr F.out.chg k (by rw [hn.out]; exact h1)
              generalize l.getD k 0 = x at cj
              obtain ⟨q, hq, q1, q2⟩ := small x j (by omega)
              have q64 : IntKind.i64.wrap (64 * (q : Int)) = 64 * (q : Int) := IntWalk.i64_in _ (by omega)
              have FR := Lib.hid (F.out.free (x := q) (by omega) hq)
              have f1 := F.out.f1
              have VL : Hid (V.length ≤ j) := len_le j V F.out.nd F.out.lt
              go_wp2_with fail
              refine FR.out.mono ?_
              rintro e w5 ⟨rfl, F5, c5⟩
              have O5 := F.out.row (Nat.le_refl _) O.out c5
              clear FR cj f1 F O
              by_cases hm : q ∈ V
              · rw [if_pos hm] at F5 ⊢
                replace F5 := Lib.hid F5
                replace O5 := Lib.hid O5
                clear c5 hm
                go_wp2_with fail
                go_roundg (20 - (k + 1))
                case measure => have := hg.out; omega
                case rel => exact ⟨k + 1, V, rfl, rfl, by omega, F5.out, O5.out⟩
              · rw [if_neg hm] at F5 ⊢
                replace O5 := Lib.hid O5
                have V5 : Hid ((Ti (V.map (64 * ·))).length ≤ 15) := by show _ ≤ _; rw [map64_len]; have := VL.out; omega
                have LITO : Hid (Mem.Own (w5.alloc (.cells #[.int .i64 (64 * (q : Int))] 3)) w5.heap.size 3 .i64 (.slice (some ⟨w5.heap.size, 0, none⟩) 1 1) [64 * (q : Int)]) := Own.lit w5 3 .i64 [64 * (q : Int)] (by unfold maxLen; show 1 ≤ _; omega)
                have wsz := Lib.hid F5.sz
                replace F5 := Lib.hid F5
                obtain ⟨AV, cV, rfl⟩ := O5.out.form
                have nilV := O5.out.nilc
                generalize hvl : (Ti (V.map (64 * ·))).length = vl at O5 V5 ⊢
                replace hvl := Lib.hid hvl
                replace nilV := Lib.hid nilV
                clear c5 hm
                go_wp2_with (at_builtin; refine wpList_app rfl _ _ 25 rfl w5.heap.size 3 .i64 8 Try.underlying25 infoInt _ [64 * (q : Int)] rfl LITO.out AV vl cV (Ti (V.map (64 * ·))) rfl hvl.out (O5.out.sl.chg (Chg.alloc (fun _ => False) _ _) fun _ _ => id) nilV.out ?h63 ?hby ?hba ?_; (case h63 => have := V5.out; show 1 + vl ≤ _; unfold maxLen; omega); (case hby => have := V5.out; show (1 + vl) * 8 ≤ _; omega); (case hba => rw [World.size_alloc]; omega); intro A6 c6 n6 w6 hn6 hown6 hchg6; have hn6' : Hid (n6 = 1 + vl) := hn6; have F6 : Hid (LF wo.heap.size base wo w6 a h b rg r7 j (q :: V)) := (F5.out.skip ((Chg.alloc _ _ _).trans (hchg6.mono fun x _ hx => Nat.le_trans wsz.out hx))); have O6 : Hid (Mem.Own w6 base 3 .i64 (.slice A6 n6 c6) (Ti ((q :: V).map (64 * ·)))) := (hown6.mono wsz.out); clear hn6 hown6 hchg6)
                go_roundg (20 - (k + 1))
                case measure => have := hg.out; omega
                case rel => exact ⟨k + 1, q :: V, rfl, rfl, by omega, F6.out, O6.out⟩
            · have h2' : ¬ (k : Int) < 20 := by omega
              go_wp2_with fail
              go_meet
              exact ⟨V, F.out, O.out⟩
          · have h1' : ¬ (k : Int) < (ln : Int) := by omega
            go_wp2_with fail
            go_meet
            exact ⟨V, F.out, O.out⟩
      case rest =>
        clear F0
        obtain ⟨V, F, O⟩ := hcut
        have VL : Hid (V.length ≤ j) := len_le j V F.out.nd F.out.lt
        clear wn
        go_wp2_with fail
        go_loopg [11, 14] (16 - j) (fun m v i wx => ∃ (k : Nat), i = .int .i64 k ∧ m = 16 - k ∧ j ≤ k ∧ k ≤ 16 ∧ Hid (LF wo.heap.size base wo wx a h b rg r7 j V) ∧ Hid (Mem.Own wx base 3 .i64 v (Ti (V.map (64 * ·) ++ (C1.drop j).take (k - j)))))
        case atStart => exact ⟨j, rfl, by omega, by omega, by omega, F.out, by rw [Nat.sub_self, List.take_zero, List.append_nil]; exact O.out⟩
        case round =>
          clear F O
          obtain ⟨k, rfl, hg, hjk, hk, F, O⟩ := hrel
          replace hg := Lib.hid hg
          by_cases h1 : k < 16
          · have h1' : (k : Int) < 16 := by omega
            have q64 : IntKind.i64.wrap (64 * (k : Int)) = 64 * (k : Int) := IntWalk.i64_in _ (by omega)
            have V5 : Hid ((Ti (V.map (64 * ·) ++ (C1.drop j).take (k - j))).length ≤ 31) := by
              show _ ≤ _
              rw [ti_len, List.length_append, List.length_map]
              have := VL.out
              have : ((C1.drop j).take (k - j)).length ≤ 16 := Nat.le_trans (List.length_take_le _ _) (by omega)
              omega
            have TK : Hid (Ti (V.map (64 * ·) ++ (C1.drop j).take (k + 1 - j)) = Ti (V.map (64 * ·) ++ (C1.drop j).take (k - j)) ++ [64 * (k : Int)]) := by
              show _ = _
              rw [c1_take k h1 j hjk, ← List.append_assoc, ti_app]
              congr 2
            have wsz := Lib.hid F.out.sz
            obtain ⟨AV, cV, rfl⟩ := O.out.form
            generalize hvl : (Ti (V.map (64 * ·) ++ (C1.drop j).take (k - j))).length = vl at O V5 ⊢
            replace hvl := Lib.hid hvl
            go_wp2_with (at_builtin; refine wpList_app rfl _ _ 25 rfl base 3 .i64 8 Try.underlying25 infoInt _ (Ti (V.map (64 * ·) ++ (C1.drop j).take (k - j))) rfl (O.out.chg (Chg.alloc (fun _ => False) wr (.cells #[.int .i64 (64 * (k : Int))] 3)) (fun _ _ => id)) (some ⟨wr.heap.size, 0, none⟩) 1 1 [64 * (k : Int)] rfl rfl (sl_lit wr .i64 [64 * (k : Int)] 3 (0, 0)) (fun e => by cases e) ?h63 ?hby ?hba ?_; (case h63 => rw [hvl.out]; have := V5.out; unfold maxLen; omega); (case hby => rw [hvl.out]; have := V5.out; omega); (case hba => have := wsz.out; rw [World.size_alloc]; omega); intro A6 c6 n6 w6 hn6 hown6 hchg6; have F6 : Hid (LF wo.heap.size base wo w6 a h b rg r7 j V) := (F.out.skip ((Chg.alloc _ _ _).trans hchg6)); have O6 : Hid (Mem.Own w6 base 3 .i64 (.slice A6 n6 c6) (Ti (V.map (64 * ·) ++ (C1.drop j).take (k + 1 - j)))) := (by rw [TK.out]; exact hown6); clear hn6 hown6 hchg6)
            go_roundg (16 - (k + 1))
            case measure => have := hg.out; omega
            case rel => exact ⟨k + 1, rfl, rfl, by omega, by omega, F6.out, O6.out⟩
          · have h1' : ¬ (k : Int) < 16 := by omega
            obtain rfl : k = 16 := by omega
            have e16 : (C1.drop j).take (16 - j) = C1.drop j := List.take_of_length_le (by rw [List.length_drop]; show 16 - j ≤ 16 - j; omega)
            rw [e16] at O
            have hql : (V.map (64 * ·) ++ C1.drop j).length ≤ 16 := by
              rw [List.length_append, List.length_map, List.length_drop]
              have := VL.out
              show V.length + (16 - j) ≤ 16
              omega
            have G0 : Hid (LG wo.heap.size base wo wr a h b rg r7 (V.map (64 * ·) ++ C1.drop j)) := by obtain ⟨s, k1, k2⟩ := F.out.ex; exact ⟨s, k1, k2⟩
            generalize V.map (64 * ·) ++ C1.drop j = Q at O hql G0
            clear F e16 VL hg h1 h1'
            have ZB := Lib.hid G0.out.sz
            obtain ⟨AW, cW, rfl⟩ := O.out.form
            have WL : Hid (∀ g, AW.map (·.block) = some g → g < wr.heap.size) := fun g hg => by
              cases AW with
              | none => cases hg
              | some ad => cases hg; exact (World.ownsRow.lt O.out ad.block rfl).2
            obtain ⟨wq, hwq⟩ : ∃ wq, wr = wq := ⟨_, rfl⟩
            rw [hwq] at WL ZB
            replace hwq := Lib.hid hwq
            generalize hqn : (Ti Q).length = qn at O ⊢
            have hqn2 : qn = Q.length := by rw [← hqn, ti_len]
            replace hqn := Lib.hid hqn
            replace hql : qn ≤ 16 := by omega
            replace hqn2 := Lib.hid hqn2
            go_wp2_with fail
            go_loopg [15, 16] 17 (fun m v i wx => ∃ (k : Nat), i = .int .i64 k ∧ m = 17 - k ∧ k ≤ qn ∧ Hid (LG wo.heap.size base wo wx a h b rg r7 (Q.drop k)) ∧ Hid (Mem.Own wx wq.heap.size 3 .i64 v (Ti (Q.take k))) ∧ Hid (Mem.Own wx base 3 .i64 (.slice AW qn cW) (Ti Q)) ∧ Hid (wq.heap.size ≤ wx.heap.size))
            case atStart => exact ⟨0, rfl, rfl, by omega, by rw [List.drop_zero]; exact G0.out, by rw [List.take_zero]; exact Own.nil _ _ _ _, O.out, by rw [hwq.out]; exact Nat.le_refl _⟩
            case round =>
              clear G0 O hwq
              obtain ⟨k, rfl, hg, hk, G, OG, OQ, sz⟩ := hrel
              replace hg := Lib.hid hg
              have h1' : (k : Int) < 17 := by omega
              have f1 := G.out.f1
              by_cases h1 : k < qn
              · have kl : k < Q.length := by have := hqn2.out; omega
                have ed : Q.drop k = Q.getD k 0 :: Q.drop (k + 1) := by rw [List.drop_eq_getElem_cons kl, List.getD_eq_getElem?_getD, List.getElem?_eq_getElem kl]; rfl
                have G2 := G.out
                rw [ed] at G2
                have NX := Lib.hid G2.next
                have TK := take_succ_d Q k kl
                generalize Q.getD k 0 = x at NX TK G2
                replace TK : Hid (Ti (Q.take (k + 1)) = Ti (Q.take k) ++ [(x : Int)]) := by show _ = _; rw [TK, ti_app]
                replace G2 := Lib.hid G2
                have lk : Hid ((Ti (Q.take k)).length = k) := by show _ = _; rw [ti_len, List.length_take]; omega
                clear ed G kl
                go_wp2_with fail
                refine NX.out.mono ?_
                rintro e w5 ⟨rfl, G5, c5⟩
                have OG5 := Lib.hid (G2.out.row ZB.out OG.out c5)
                have OQ5 := Lib.hid (G2.out.row (Nat.le_refl _) OQ.out c5)
                have sz5 : Hid (wq.heap.size ≤ w5.heap.size) := Nat.le_trans sz.out c5.size
                replace G5 := Lib.hid G5
                clear c5 f1 NX OG OQ sz G2
                obtain ⟨AG, cG, rfl⟩ := OG5.out.form
                rw [lk.out] at OG5 ⊢
                go_wp2_with (at_builtin; refine wpList_app rfl _ _ 25 rfl wq.heap.size 3 .i64 8 Try.underlying25 infoInt _ (Ti (Q.take k)) rfl (OG5.out.chg (Chg.alloc (fun _ => False) w5 (.cells #[.int .i64 (x : Int)] 3)) (fun _ _ => id)) (some ⟨w5.heap.size, 0, none⟩) 1 1 [(x : Int)] rfl rfl (sl_lit w5 .i64 [(x : Int)] 3 (0, 0)) (fun e => by cases e) ?h63 ?hby ?hba ?_; (case h63 => rw [lk.out]; unfold maxLen; omega); (case hby => rw [lk.out]; omega); (case hba => have := sz5.out; rw [World.size_alloc]; omega); intro A6 c6 n6 w6 hn6 hown6 hchg6; have C6 : Hid (Chg (fun y => wq.heap.size ≤ y) w5 w6) := ((Chg.alloc _ _ _).trans hchg6); have O6 : Hid (Mem.Own w6 wq.heap.size 3 .i64 (.slice A6 n6 c6) (Ti (Q.take (k + 1)))) := (by rw [TK.out]; exact hown6); clear hn6 hown6 hchg6)
                go_roundg (17 - (k + 1))
                case measure => have := hg.out; omega
                case rel =>
                  refine ⟨k + 1, rfl, rfl, by omega, G5.out.skip (C6.out.mono fun y _ hy => Nat.le_trans ZB.out hy), O6.out, OQ5.out.chg C6.out fun g hg e => ?_, Nat.le_trans sz5.out C6.out.size⟩
                  have := WL.out g (by
                    cases AW with
                    | none => cases hg
                    | some ad => simpa [Value.ownBlock] using hg)
                  omega
              · obtain rfl : k = qn := by omega
                have ed : Q.drop k = [] := List.drop_eq_nil_of_le (by have := hqn2.out; omega)
                have et : Q.take k = Q := List.take_of_length_le (by have := hqn2.out; omega)
                have G2 := G.out
                rw [ed] at G2
                rw [et] at OG
                have NX := Lib.hid G2.full
                replace G2 := Lib.hid G2
                clear G ed et h1
                go_wp2_with fail
                refine NX.out.mono ?_
                rintro e w5 ⟨rfl, G5, c5⟩
                have OG5 := G2.out.row ZB.out OG.out c5
                have OQ5 := G2.out.row (Nat.le_refl _) OQ.out c5
                obtain ⟨AG, cG, rfl⟩ := OG5.form
                rw [hqn.out] at OG5
                have SM := same06_calls (c := cG) (d := cW) OG5.sl OQ5.sl (by rw [hqn.out]; omega)
                rw [hqn.out] at SM ⊢
                replace SM := Lib.hid SM
                have F := Lib.hid (LO.out w5 G5.chg)
                clear c5 f1 NX OG OQ sz G2 G5 OG5 OQ5
                go_wp2_with fail
                refine SM.out.mono ?_
                rintro e w6 ⟨rfl, d6⟩
                have F6 : Hid (Below w.heap.size w w6) := by
                  obtain ⟨q, rfl⟩ := d6
                  exact F.out.trans ((Chg.drewN (fun _ => False) w5 q).below F.out.size fun _ h => h.elim)
                clear d6
                go_wp2_with fail
                go_ret
                exact ⟨rfl, F6.out⟩
end Go.Proofs.Ytmffdlebahdihaa.Slab

