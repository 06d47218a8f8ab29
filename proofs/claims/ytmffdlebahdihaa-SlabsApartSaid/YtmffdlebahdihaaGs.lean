import Derived.Test.YtmffdlebahdihaaGr
import Derived.Test.YtmffdlebahdihaaGc
import Derived.Lib.SliceRun
/- The program's chunks: cut. -/
namespace Go.Proofs.Ytmffdlebahdihaa.Slab
open Go Go.RowKit Go.Shelf Go.Proofs.Ytmffdlebahdihaa.Mem Go.Proofs.Ytmffdlebahdihaa.CodecPure Go.Proofs.Ytmffdlebahdihaa.ArenaPure Go.Proofs.Ytmffdlebahdihaa.Codec Go.Proofs.Ytmffdlebahdihaa.Arena Go.Proofs.Ytmffdlebahdihaa.Item
set_option linter.unusedVariables false
set_option maxRecDepth 100000
attribute [local go_sem] Oper.semAt_some
variable {B : Nat} {w0 w w' : World} {a : Ar} {h : Sh} {s s' : St} {T : List Nat} {L : Nat → List Nat} {H : List Int} {c x p : Nat}
theorem nodup_rev {l : List Nat} (h : l.Nodup) : l.reverse.Nodup := (List.reverse_perm l).symm.nodup h
theorem chg_put (W : World) (D : Nat) (o : Obj) : Chg (fun b => some D = some b) W (W.putObj D o) :=
  have h := grownBy_putObj' W D o
  ⟨h.os, h.tape, h.output, h.size, fun b hb hn => h.block b hb fun e => hn e.symm⟩
theorem chg_beyond {S R : Nat → Prop} {A B C : World} (h : Chg S A B) (k : Chg R B C) (hr : ∀ b, b < A.heap.size → ¬ R b) : Chg S A C :=
  ⟨k.os.trans h.os, k.tape.trans h.tape, k.output.trans h.output, Nat.le_trans h.size k.size, fun i hi hs => (k.block i (Nat.lt_of_lt_of_le hi h.size) (hr i hi)).trans (h.block i hi hs)⟩
/-- the same for whatever is pushed, once or more often: only if nothing comes twice, the lists are known -/
structure PJ (W0 : World) (a : Ar) (h : Sh) (T : List Nat) (s0 : St) (L0 : Nat → List Nat) (c : Nat) (E : Nat → Prop) (pre : List Nat) (W : World) : Prop where
  raw : ∃ s H, WB W a h s T H ∧ -9223372036854775808 ≤ H.getD c 0 ∧ H.getD c 0 ≤ 9223372036854775807
  chg : Chg (S7 a h) W0 W
  pi : pre.Nodup → PI W0 a h T s0 L0 c E pre W
variable {W0 W : World} {s0 : St} {L0 : Nat → List Nat} {E : Nat → Prop} {pre : List Nat}
theorem PJ.start (k : WB W0 a h s0 T (hds T L0)) (i : SLI s0 T L0) (hc : c < T.length) : PJ W0 a h T s0 L0 c E [] W0 :=
  ⟨⟨s0, _, k, by rw [hds_at L0 hc]; exact hd_i64 i hc⟩, Chg.refl _ _, fun _ => PI.start k i⟩
theorem PJ.from {A : World} {row : Option Nat} (k : PJ W0 a h T s0 L0 c E pre A) (hg : A.grownBy W row) (k0 : WB W0 a h s0 T H) (hr : ∀ r, row = some r → W0.heap.size ≤ r) : PJ W0 a h T s0 L0 c E pre W := by
  obtain ⟨s, H1, h1, h2⟩ := k.raw
  have hc := chg_of_grown (base := W0.heap.size) hg hr
  have lt := wb_lt k0
  exact ⟨⟨s, H1, h1.skip hc fun x hx e => by have := lt x hx; omega, h2⟩, ⟨hc.os.trans k.chg.os, hc.tape.trans k.chg.tape, hc.output.trans k.chg.output, Nat.le_trans k.chg.size hc.size, fun i hi hs => (hc.block i (Nat.lt_of_lt_of_le hi k.chg.size) (by omega)).trans (k.chg.block i hi hs)⟩, fun hp => (k.pi hp).from hg k0 hr⟩
theorem PJ.push (k : PJ W0 a h T s0 L0 c E pre W) (hc : c < T.length) (hx : Chk s0.own T c x) (hn : x ∉ L0 c) (hE : E x) (xl : x < 32768) :
    Calls Try.prog 45 #[(.pointer (some ⟨h.b, 0, none⟩)), (.int .i64 ((c : Int))), (.int .i64 ((x : Int)))] W fun e w' => (∃ v, e = .returned v) ∧ PJ W0 a h T s0 L0 c E (pre ++ [x]) w' ∧ Chg (S7 a h) W w' := by
  by_cases hp : (pre ++ [x]).Nodup
  · have hp2 := List.nodup_append.1 hp
    have hx2 : x ∉ pre := fun hm => hp2.2.2 x hm x (by simp) rfl
    refine ((k.pi hp2.1).push hc hx hn hx2 hE).mono fun e w' ⟨e1, h2, h3⟩ => ⟨⟨_, e1⟩, ⟨?_, h2.chg, fun _ => h2⟩, h3⟩
    obtain ⟨s, g1, g2, g3, g4⟩ := h2.ex
    exact ⟨s, _, g1, by rw [hds_at _ hc]; exact hd_i64 g2 hc⟩
  · obtain ⟨s, H1, h1, h2⟩ := k.raw
    refine (push_calls h1 hc (x : Int) (by omega) h2).mono fun e w' ⟨e1, g2, g3⟩ => ⟨⟨_, e1⟩, ⟨⟨_, _, g2, ?_⟩, k.chg.trans g3, fun q => (hp q).elim⟩, g3⟩
    rw [set_getI _ (by rw [h1.hl]; exact hc), if_pos rfl]
    omega
theorem PJ.boxed {b : Nat} {ty : TypeId} {v : Value} (k : PJ W0 a h T s0 L0 c E pre W) (hb : Boxed W0 b ty v) (hn : ¬ S7 a h b) : Boxed W b ty v := k.chg.keep hb hn
set_option maxHeartbeats 2000000 in
theorem SX.cut (k : SX B w0 w a h T s L) (hc : c < T.length) (hp : p < s.own.length) (ho : s.own.getD p 0 = (c : Int)) (hn : ∀ x ∈ chl T c p, x ∉ L c) :
    Calls Try.prog 53 #[(.pointer (some ⟨h.b, 0, none⟩)), (.int .i64 ((p : Int)))] w (XEnd B w0 w a h T s L s.own (upN L c (chl T c p ++ L c)) (· ∈ chl T c p) (.tuple #[])) := by
  have CA : Hid (Chg (fun _ => False) w (w.alloc (.cells #[(.pointer (some ⟨h.b, 0, none⟩))] 33))) := Chg.alloc _ _ _
  have B0 : Hid (Boxed (w.alloc (.cells #[(.pointer (some ⟨h.b, 0, none⟩))] 33)) w.heap.size 33 (.pointer (some ⟨h.b, 0, none⟩))) := Boxed.new w _ _
  have e0 := B0.out.cell
  have CK := Lib.hid (chunks_ok (k.wb.fresh CA.out) k.inv hc hp ho)
  have KH := Lib.hid k
  have LK : Hid (∀ x, S7 a h x → x < w.heap.size) := fun x hx => wb_lt k.wb x (by
    rcases hx with hx | rfl
    · exact .inr (.inr (.inl hx))
    · exact .inr (.inr (.inr (.inr (.inr rfl)))))
  have l1024 : (chl T c p).length ≤ 1024 := by rw [chl_len]; exact Nat.div_le_self _ _
  have HX := Lib.hid (fun x (hx : x ∈ chl T c p) => chl_chk hp ho hx)
  have ND := Lib.hid (chl_nodup T c p)
  have EO : owner s (p : Int) = ((c : Int), 0) := by unfold owner; rw [if_neg (by omega), Int.toNat_natCast, ho]
  have OC := Lib.hid (fun W (hW : Chg (fun _ => False) w W) => owner_calls (k.wb.fresh hW).lies (p : Int))
  rw [EO] at OC
  have HN := Lib.hid hn
  have HC := Lib.hid hc
  have c0 := Lib.hid (fun W (hW : Chg (fun _ => False) w W) => (k.wb.fresh hW).c0)
  clear k EO hp ho hn hc
  generalize chl T c p = l at *
  refine (callsIn_wide (n := 3)).1 ?_
  refine callsIn_of_wp_marks Try.func53 rfl trivial ?_ rfl
  simp only [Try.ntmps53, List.size_toArray, List.length_cons, List.length_nil, Nat.reduceAdd, Nat.reduceSub, Array.replicate_succ, Array.replicate_zero, List.push_toArray, List.append_toArray, List.nil_append, List.cons_append]
  refine wpIn_wide.2 ?_
  go_wp2_with fail
  generalize w.alloc (.cells #[(.pointer (some ⟨h.b, 0, none⟩))] 33) = w1 at CA B0 e0 CK ⊢
  generalize hG : w.heap.size = G0 at B0 e0 LK ⊢
  unfold CkEnd at CK
  refine CK.out.mono ?_
  rintro e w2 ⟨A, q, rfl, ho, hc2⟩
  have O2 := Lib.hid ho
  have C2 : Hid (Chg (fun _ => False) w w2) := CA.out.trans hc2
  have B2' : Hid (Boxed w2 G0 33 (.pointer (some ⟨h.b, 0, none⟩))) := hc2.keep B0.out id
  have f0 := B2'.out.cell
  have a0 := c0.out w2 C2.out
  have O3 := Lib.hid (OC.out w2 C2.out)
  have G1 : Hid (G0 < w1.heap.size ∧ w1.heap.size ≤ w2.heap.size) := ⟨blk_lt B0.out, hc2.size⟩
  clear ho hc2 CK e0 B0 OC
  go_wp2_with fail
  refine O3.out.mono ?_
  rintro e w3 ⟨rfl, rfl⟩
  clear O3
  go_wp2_with fail
  have C3 : Hid (Chg (fun _ => False) w2 (w2.alloc (.cells #[(.int .i64 ((c : Int)))] 3))) := Chg.alloc _ _ _
  have B3 : Hid (Boxed (w2.alloc (.cells #[(.int .i64 ((c : Int)))] 3)) w2.heap.size 3 (.int .i64 ((c : Int)))) := Boxed.new w2 _ _
  have Z3 : Hid ((w2.alloc (.cells #[(.int .i64 ((c : Int)))] 3)).heap.size = w2.heap.size + 1) := World.size_alloc _ _
  generalize w2.alloc (.cells #[(.int .i64 ((c : Int)))] 3) = w3 at C3 B3 Z3 ⊢
  refine (back_calls A l.length q w3).mono ?_
  rintro e w4 ⟨rfl, e4⟩
  have C4 : Hid (Chg (fun _ => False) w3 (w3.alloc (.cells #[.slice A l.length q] 25))) := Chg.alloc _ _ _
  have B4 : Hid (Boxed (w3.alloc (.cells #[.slice A l.length q] 25)) w3.heap.size 25 (.slice A l.length q)) := Boxed.new w3 _ _
  have Z4 : Hid ((w3.alloc (.cells #[.slice A l.length q] 25)).heap.size = w3.heap.size + 1) := World.size_alloc _ _
  rw [← e4] at C4 B4 Z4
  clear e4
  have C24 : Hid (Chg (fun _ => False) w2 w4) := C3.out.trans C4.out
  have Cw4 : Hid (Chg (fun _ => False) w w4) := C2.out.trans C24.out
  have K4 := Lib.hid (KH.out.wb.fresh Cw4.out)
  have B04 : Hid (Boxed w4 G0 33 (.pointer (some ⟨h.b, 0, none⟩))) := C24.out.keep B2'.out id
  have B34 : Hid (Boxed w4 w2.heap.size 3 (.int .i64 ((c : Int)))) := C4.out.keep B3.out id
  have sl4 := (show Sl w2 .i64 A (Ti l) from O2.out.sl).chg C24.out fun _ _ => id
  obtain ⟨sb, hsb, hsb2, hsb3⟩ : ∃ sb, (∀ ad, A = some ad → ad.block = sb) ∧ w1.heap.size ≤ sb ∧ sb < w2.heap.size + 1 := by
    cases hA : A with
    | none => exact ⟨w2.heap.size, (fun ad e => by cases e), G1.out.2, Nat.lt_succ_self _⟩
    | some ad =>
      subst hA
      have h1 := World.ownsRow.lt O2.out ad.block rfl
      exact ⟨ad.block, (fun ad' e => by cases e; rfl), h1.1, by have := h1.2; omega⟩
  have hst := back_stops (Ti l) (by rw [ti_len]; omega) 2 w3.heap.size sb (by decide) A q w4 (by rw [Z4.out]; omega) (by rw [Z4.out, Z3.out]; omega) (by rw [ti_len]; exact B4.out.cell) sl4 hsb
  have LG : Hid (¬ S7 a h G0 ∧ ¬ S7 a h w2.heap.size) := ⟨fun q => by have := LK.out _ q; omega, fun q => by have := LK.out _ q; have := G1.out; omega⟩
  have I0 : Hid (PJ w4 a h T s L c (· ∈ l) [] w4) := PJ.start K4.out KH.out.inv HC.out
  go_wp2_with fail
  refine (wpIn_wide (n := 3)).1 ?_
  refine wpIn_rangeFunc_ownG rfl (by decide) (gf := 108) (lb := #[(.pointer (some ⟨w3.heap.size, 0, none⟩))]) rfl trivial (enters_of Try.func108 (by kernel_rfl) rfl) hst
    (fun h k => h.trans k) (fun W l o o' hl h1 h2 h3 => ⟨World.putObj_heap_other (by rw [Z4.out] at hl; omega), World.putObj_heap_other (by rw [Z4.out, Z3.out] at hl; omega)⟩) (Below.refl _ _) (fun _ => rfl)
    (fun (pre : List (Fin (Ti l).length)) W => PJ w4 a h T s L c (· ∈ l) (pre.map fun (i : Fin (Ti l).length) => l.getD i.val 0) W)
    (fun _ _ _ => False)
    (fun s A B row hs hg hr => hs.from hg K4.out fun r e => (hr r e).1)
    (fun _ _ _ _ _ hs _ _ => hs)
    I0.out
    (fun y => { tmps := #[(.pointer (some ⟨h.b, 0, none⟩)), (.int .i64 ((p : Int))), (.pointer (some ⟨G0, 0, none⟩)), undef, .slice A l.length q, (.int .i64 0), (.pointer (some ⟨w2.heap.size, 0, none⟩)), (.int .i64 0), undef, .int .i64 ((Ti l).getD y.val 0), .tuple #[.slice A l.length q, (.int .i64 0)], (.pointer (some ⟨h.b, 0, none⟩)), (.int .i64 ((p : Int))), .tuple #[.slice A l.length q, (.int .i64 0)], .slice A l.length q, (.int .i64 0), .tuple #[(.int .i64 ((c : Int))), (.int .i64 0)], (.pointer (some ⟨h.b, 0, none⟩)), (.pointer (some ⟨h.b, 0, none⟩)), (.pointer (some ⟨h.b, 0, none⟩)), (.pointer (some ⟨a.g, 0, none⟩)), (.int .i64 ((p : Int))), .tuple #[(.int .i64 ((c : Int))), (.int .i64 0)], (.int .i64 ((c : Int))), (.int .i64 0), .slice A l.length q, .func (.func 108) #[] #[(.pointer (some ⟨w3.heap.size, 0, none⟩))], .int .i64 (y.val : Int), .int .i64 ((Ti l).getD y.val 0), undef, undef, undef, undef], defers := [] }) ?assign ?body ?done ?stop
  case assign =>
    intro l' y W K hK
    unfold bv
    generalize (Ti l).getD y.val 0 = yv at hK ⊢
    gi_wp2
    exact hK
  case body =>
    rintro l' pre y W hI hlt
    have c0 := (hI.boxed B04.out LG.out.1).cell
    have c3 := (hI.boxed B34.out LG.out.2).cell
    have y1 := y.isLt
    have y2 : y.val < l.length := by have := ti_len l; omega
    have xm : l.getD y.val 0 ∈ l := by rw [List.getD_eq_getElem?_getD, List.getElem?_eq_getElem y2]; exact List.getElem_mem y2
    have PU := hI.push HC.out (HX.out _ xm) (HN.out _ xm) xm (KH.out.inv.lt (HX.out _ xm))
    rw [show pre.map (fun (i : Fin (Ti l).length) => l.getD i.val 0) ++ [l.getD y.val 0] = (pre ++ [y]).map (fun (i : Fin (Ti l).length) => l.getD i.val 0) by rw [List.map_append]; rfl] at PU
    have xv : (Ti l).getD y.val 0 = ((l.getD y.val 0 : Nat) : Int) := ti_at _ _
    rw [xv]
    generalize l.getD y.val 0 = yy at PU
    have A2 := Lib.hid (((callsIn_wide (n := 0)).2 PU).inRound l')
    have HS : Hid (w2.heap.size + 2 ≤ W.heap.size) := by have := hI.chg.size; rw [Z4.out, Z3.out] at this; exact this
    clear PU xv xm y2 y1 hI hst hlt
    gi_wp2_with fail
    refine ⟨trivial, ?_⟩
    refine A2.out.mono ?_
    rintro e w8 ⟨⟨v, rfl⟩, hJ, hc⟩
    replace hJ := Lib.hid hJ
    replace hc := Lib.hid hc
    clear A2 c0 c3
    gi_wp2_with fail
    have W31 := HS.out
    have z3 := Z3.out
    have z4 := Z4.out
    have g1 := G1.out
    have g2 := hG
    exact ⟨⟨hc.out.size, fun k o hk h1 _ => (hc.out.block k (Array.getElem?_eq_some_iff.1 h1).1 fun h => by have := LK.out k h; omega).trans h1⟩, ⟨hc.out.block _ (by omega) fun h => by have := LK.out _ h; omega, hc.out.block _ (by omega) fun h => by have := LK.out _ h; omega⟩, hJ.out⟩
  case done =>
    rintro D ys W hD rfl hI hK
    rw [revs_map] at hI
    have HI := Lib.hid (hI.pi (nodup_rev ND.out))
    have HK := Lib.hid hK
    clear hI hK hst
    gi_wp2
    go_wp2_with fail
    have z3 := Z3.out
    have z4 := Z4.out
    have g1 := G1.out
    refine ⟨by simp, .inl ⟨_, _, rfl, run_takeDeferred HK.out, ?_⟩⟩
    have CP := chg_put W D (.deferred none)
    obtain ⟨t, h1, h2, h3, h4⟩ := HI.out.ex
    rw [List.reverse_reverse] at h1 h2 h4
    have cw : Chg (S7 a h) w W := (Cw4.out.mono fun _ _ q => q.elim).trans HI.out.chg
    have cw2 := chg_beyond cw CP fun b hb e => by have := Option.some.inj e; omega
    have lt := wb_lt KH.out.wb
    refine ⟨_, results_none rfl _ _ _, rfl, t, KH.out.next (h1.skip CP fun x hx e => by have := lt x hx; have := Option.some.inj e; omega) h2 cw2, h3, h4, cw2⟩
  case stop =>
    rintro D c' pre W _ _ h _
    exact h.elim
end Go.Proofs.Ytmffdlebahdihaa.Slab

/- The program's chunks: Alloc. -/
namespace Go.Proofs.Ytmffdlebahdihaa.Slab
open Go Go.RowKit Go.Shelf Go.Proofs.Ytmffdlebahdihaa.Mem Go.Proofs.Ytmffdlebahdihaa.CodecPure Go.Proofs.Ytmffdlebahdihaa.ArenaPure Go.Proofs.Ytmffdlebahdihaa.Codec Go.Proofs.Ytmffdlebahdihaa.Arena Go.Proofs.Ytmffdlebahdihaa.Item
set_option linter.unusedVariables false
set_option maxRecDepth 100000
variable {B : Nat} {w0 w w' : World} {a : Ar} {h : Sh} {s s' : St} {T : List Nat} {L : Nat → List Nat} {H : List Int} {c x p : Nat} {l : List Nat}
theorem SX.alloc_none (k : SX B w0 w a h T s L) (n : Int) (hn : ¬ (0 ≤ n ∧ n < T.length)) (E : Nat → Prop) : Calls Try.prog 16 #[(.pointer (some ⟨h.b, 0, none⟩)), (.int .i64 n)] w (XEnd B w0 w a h T s L s.own L E (.tuple #[.int .i64 0, .int .i64 1])) := by
  have CC := class_calls k.wb n
  rw [decide_eq_false hn] at CC
  have SM : Hid (∀ w', w' = w → XEnd B w0 w a h T s L s.own L E (.tuple #[.int .i64 0, .int .i64 1]) (.returned (.tuple #[.int .i64 0, .int .i64 1])) w') := fun w' e => by subst e; exact k.same rfl (Chg.refl _ _)
  replace CC := Lib.hid CC
  clear k hn
  go_enter Try.func16, Try.ntmps16
  go_wp2_with fail
  refine CC.out.mono ?_
  rintro e w1 ⟨rfl, rfl⟩
  go_wp2_with fail
  go_ret2
  exact SM.out _ rfl
theorem SX.alloc_full (k : SX B w0 w a h T s L) (hc : c < T.length) (e : L c = []) (hf : ¬ first s.own < s.own.length) (E : Nat → Prop) : Calls Try.prog 16 #[(.pointer (some ⟨h.b, 0, none⟩)), (.int .i64 ((c : Int)))] w (XEnd B w0 w a h T s L s.own L E (.tuple #[.int .i64 0, .int .i64 2])) := by
  have CC := class_calls k.wb (c : Int)
  have hc' : (c : Int) < (T.length : Int) := by omega
  rw [decide_eq_true ⟨by omega, hc'⟩] at CC
  have c0 := k.wb.c0
  have c2 := k.wb.c2
  have ch := (k.wb.ch hc).1
  rw [hds_at L hc, e] at ch
  have n1 := k.wb.n1
  have GR := grant_calls k.wb.lies (c : Int)
  have eg : ArenaPure.grant s (c : Int) = (s, 0, 2) := by
    unfold ArenaPure.grant
    have := k.inv.tl
    rw [if_neg (by omega), if_neg hf]
  rw [eg] at GR
  have SM : Hid (∀ w', Lies w' a s → Chg (· ∈ a.pb) w w' → XEnd B w0 w a h T s L s.own L E (.tuple #[.int .i64 0, .int .i64 2]) (.returned (.tuple #[.int .i64 0, .int .i64 2])) w') := fun w' h1 h2 => by
    obtain ⟨a1, a2⟩ := k.wb.arena h1 h2
    exact ⟨rfl, s, k.next a1 k.inv a2, rfl, Fr.refl _ _ _ _, a2⟩
  replace CC := Lib.hid CC
  replace GR := Lib.hid GR
  generalize hN : T.length = N at *
  clear k hc e hN eg
  go_enter Try.func16, Try.ntmps16
  go_wp2_with fail
  refine CC.out.mono ?_
  rintro e w1 ⟨rfl, rfl⟩
  go_wp2_with fail
  refine GR.out.mono ?_
  rintro e w2 ⟨rfl, h1, h2⟩
  have S2 := Lib.hid (SM.out w2 h1 h2)
  clear h1 h2 SM GR
  go_wp2_with fail
  go_ret2
  exact S2.out
/-- an answer with a chunk: what the chunk holds, the state and the lists behind it, what used chunks keep -/
def AlEnd (B : Nat) (w0 w : World) (a : Ar) (h : Sh) (T : List Nat) (s : St) (L : Nat → List Nat) (own : List Int) (M : Nat → List Nat) (c x : Nat) (e : Ending) (w' : World) : Prop :=
  e = .returned (.tuple #[.int .i64 (x : Int), .int .i64 0]) ∧ ∃ t, SX B w0 w' a h T t M ∧ t.own = own ∧ Fr T s L t M (fun _ => False) ∧ got t (x : Int) (tz T c) = zs (tz T c) ∧ Chk own T c x ∧ x ∉ M c ∧ Chg (S7 a h) w w'
set_option maxHeartbeats 2000000 in
theorem SX.alloc_pop (k : SX B w0 w a h T s L) (hc : c < T.length) (e : L c = x :: l) : Calls Try.prog 16 #[(.pointer (some ⟨h.b, 0, none⟩)), (.int .i64 ((c : Int)))] w (AlEnd B w0 w a h T s L s.own (upN L c l) c x) := by
  have CC := class_calls k.wb (c : Int)
  have hc' : (c : Int) < (T.length : Int) := by omega
  rw [decide_eq_true ⟨by omega, hc'⟩] at CC
  have c0 := k.wb.c0
  have c2 := k.wb.c2
  have ch := (k.wb.ch hc).1
  rw [hds_at L hc, e] at ch
  have n1 := k.wb.n1
  have hd : hdI (x :: l) = (x : Int) := rfl
  rw [hd] at ch
  have KW := Lib.hid (k.wb.fresh (Chg.drew (fun _ => False) w))
  have dis : h.b ≠ h.h := k.wb.dis.2.1
  have dis2 : h.h ≠ h.b := k.wb.dis.2.1.symm
  obtain ⟨h1, h2, h3, h4, h5⟩ := k.inv.take hc e
  obtain ⟨p1, p2, p3, -⟩ := k.inv.pop hc e
  have xl := k.inv.lt p2
  have PL := Lib.hid (place_calls KW.out.lies (x : Int) (by omega))
  rw [h1] at PL
  have ts := k.inv.ts c hc
  have FIN : Hid (∀ t W', t = ArenaPure.lay s (x : Int) (zs (tz T c)) → WB W' a h t T (hds T (upN L c l)) → Chg (S7 a h) w W' → AlEnd B w0 w a h T s L s.own (upN L c l) c x (.returned (.tuple #[.int .i64 (x : Int), .int .i64 0])) W') := fun t W' et g1 g2 => by
    subst et
    exact ⟨rfl, _, k.next g1 h3 g2, rfl, h4, h5, p2, by rw [upN_at]; exact p3, g2⟩
  have K3 : Hid (WB ((w.setCell ⟨h.h, c, none⟩ (.int .i64 (hdI l))).drew) a h s T (hds T (upN L c l)) ∧ Chg (S7 a h) w ((w.setCell ⟨h.h, c, none⟩ (.int .i64 (hdI l))).drew)) := by
    obtain ⟨g1, g2⟩ := k.wb.store hc (hdI l)
    rw [hds_set L hc l] at g1
    exact ⟨g1.fresh (Chg.drew _ _), g2.trans (Chg.drew _ _)⟩
  have WE := Lib.hid h2
  have HC := Lib.hid hc
  replace CC := Lib.hid CC
  generalize hN : T.length = N at *
  replace hN := Lib.hid hN
  clear k e h1 h2 h3 h4 h5 p1 p2 hd
  go_enter Try.func16, Try.ntmps16
  go_wp2_with fail
  refine CC.out.mono ?_
  rintro e w1 ⟨rfl, rfl⟩
  go_wp2_with fail
  go_region_held3 (fun w' => w'.cell? ⟨h.b, 0, none⟩ = some (.pointer (some ⟨a.g, 0, none⟩)) ∧ w'.cell? ⟨h.b, 2, none⟩ = some (.slice (some ⟨h.h, 0, none⟩) N h.hc)) (go_keep)
    (first
      | (go_at_call 54; refine PL.out.mono ?_; rintro e w3 ⟨rfl, rfl⟩; have z3 := (KW.out.ch (hN.out.symm ▸ HC.out)).2; have z4 := (KW.out.ch (hN.out.symm ▸ HC.out)).1; skip))
  clear z3 z4 c0 c2 ch KW PL CC
  generalize (w1.setCell ⟨h.h, c, none⟩ (.int .i64 (hdI l))).drew = w3 at K3 ⊢
  have d0 := K3.out.1.c0
  have d1 := K3.out.1.c1
  have d2 := K3.out.1.ct (hN.out.symm ▸ HC.out)
  rw [hN.out] at d1
  have mk := make_bytes (tz T c) (by omega)
  have xx : Hid (-9223372036854775808 ≤ (x : Int) ∧ (x : Int) ≤ 9223372036854775807) := ⟨by omega, by omega⟩
  have WR : Hid (Calls Try.prog 22 #[(.pointer (some ⟨a.g, 0, none⟩)), (.int .i64 ((x : Int))), .slice (some ⟨w3.heap.size, 0, none⟩) (tz T c) (tz T c)] (w3.alloc (.cells (nums .u8 (List.replicate (tz T c) 0)).toArray 5)).drew fun e w' => e = .returned (.int .i64 0) ∧ WB w' a h (ArenaPure.lay s (x : Int) (zs (tz T c))) T (hds T (upN L c l)) ∧ Chg (S7 a h) w1 w') := by
    have K4 := K3.out.1.fresh ((Chg.alloc (fun _ => False) w3 (.cells (nums .u8 (List.replicate (tz T c) 0)).toArray 5)).trans (Chg.drew _ _))
    have P := write_calls K4.lies (x : Int) (some ⟨w3.heap.size, 0, none⟩) (tz T c) (zs (tz T c)) (sl_lit w3 .u8 (zs (tz T c)) 5 (0, 0)) (zs_bytes _) (by rw [zs_len]; omega) xx.out
    rw [zs_len, WE.out] at P
    refine P.mono fun e w' ⟨h1, h2, h3⟩ => ?_
    obtain ⟨g1, g2⟩ := K4.arena h2 h3
    exact ⟨h1, g1, ((K3.out.2.trans (Chg.alloc _ _ _)).trans (Chg.drew _ _)).trans g2⟩
  generalize ArenaPure.lay s (x : Int) (zs (tz T c)) = t at WR FIN
  generalize hz : tz T c = z at *
  replace hz := Lib.hid hz
  generalize (nums .u8 (List.replicate z 0)).toArray = zz at mk WR
  clear K3 WE
  go_wp2_with fail
  go_region_held3 (fun w' => w'.cell? ⟨h.b, 0, none⟩ = some (.pointer (some ⟨a.g, 0, none⟩)) ∧ w'.cell? ⟨h.b, 1, none⟩ = some (.slice (some ⟨h.t, 0, none⟩) N h.tc) ∧ w'.cell? ⟨h.t, c, none⟩ = some (.int .i64 (z : Int))) (go_keep)
    (first
      | (go_at_call 22; refine WR.out.mono ?_; rintro e w4 ⟨rfl, k4, g4⟩; have f0 := k4.c0; have f1 := k4.c1; have f2 := k4.ct (hN.out.symm ▸ HC.out); rw [hN.out] at f1; rw [hz.out] at f2; have F4 := Lib.hid (FIN.out t w4 rfl k4 g4); clear k4 g4; skip))
  go_wp2_with fail
  go_ret2
  exact F4.out
theorem SLI.of_grant (k : SLI s T L) (hc : c < T.length) (e : L c = []) (hf : first s.own < s.own.length) {t u : St} {M : Nat → List Nat} (h1 : Fr T s L t L (fun _ => False)) (h2 : Fr T t L u M (· ∈ chl T c (first s.own))) : Fr T s L u M (fun _ => False) := fun d hd y a1 a2 _ => by
  obtain ⟨b1, b2, b3⟩ := h1 d hd y a1 a2 id
  obtain ⟨c1, c2, c3⟩ := h2 d hd y b1 b2 fun hm => k.not_free (first_neg s.own hf) a1 (chl_page hm)
  exact ⟨c1, c2, c3.trans b3⟩
set_option maxHeartbeats 2000000 in
theorem SX.alloc_grant (k : SX B w0 w a h T s L) (hc : c < T.length) (e : L c = []) (hf : first s.own < s.own.length) : ∃ l, chl T c (first s.own) = 1024 * first s.own :: l ∧ Calls Try.prog 16 #[(.pointer (some ⟨h.b, 0, none⟩)), (.int .i64 ((c : Int)))] w (AlEnd B w0 w a h T s L (s.own.set (first s.own) (c : Int)) (upN L c l) c (1024 * first s.own)) := by
  have ts := k.inv.ts c hc
  obtain ⟨l, hl⟩ := chl_pos (p := first s.own) ts.1 ts.2
  refine ⟨l, hl, ?_⟩
  have CC := class_calls k.wb (c : Int)
  have hc' : (c : Int) < (T.length : Int) := by omega
  rw [decide_eq_true ⟨by omega, hc'⟩] at CC
  have c0 := k.wb.c0
  have c2 := k.wb.c2
  have ch := (k.wb.ch hc).1
  rw [hds_at L hc, e] at ch
  have hd0 : hdI [] = -1 := rfl
  rw [hd0] at ch
  have n1 := k.wb.n1
  have GR := grant_calls k.wb.lies (c : Int)
  obtain ⟨t, g1, g2, g3, g4⟩ := k.inv.grant hc hf
  rw [g1] at GR
  have pl : first s.own < t.own.length := by rw [g2, List.length_set]; exact hf
  have po : t.own.getD (first s.own) 0 = (c : Int) := by rw [g2, set_getI _ hf, if_pos rfl]
  have NX : Hid (∀ W, Lies W a t → Chg (· ∈ a.pb) w W → SX B w0 W a h T t L ∧ Chg (S7 a h) w W) := fun W h1 h2 => by
    obtain ⟨a1, a2⟩ := k.wb.arena h1 h2
    exact ⟨k.next a1 g3 a2, a2⟩
  have CU : Hid (∀ W, SX B w0 W a h T t L → Calls Try.prog 53 #[(.pointer (some ⟨h.b, 0, none⟩)), (.int .i64 (((first s.own : Nat) : Int)))] W (XEnd B w0 W a h T t L t.own (upN L c (chl T c (first s.own) ++ L c)) (· ∈ chl T c (first s.own)) (.tuple #[]))) := fun W kW => by
    exact kW.cut hc pl po fun x hx hm => by rw [e] at hm; cases hm
  have OFG : Hid (∀ u (M : Nat → List Nat), Fr T t L u M (· ∈ chl T c (first s.own)) → Fr T s L u M (fun _ => False)) := fun u M h2 => k.inv.of_grant hc e hf g4 h2
  rw [e, List.append_nil, hl] at CU
  rw [hl] at OFG
  have HE := Lib.hid (g2)
  have HC := Lib.hid hc
  replace CC := Lib.hid CC
  replace GR := Lib.hid GR
  generalize hN : T.length = N at *
  replace hN := Lib.hid hN
  clear k e g1 g2 g3 g4 pl po hl hd0 hf
  obtain ⟨p, hp⟩ : ∃ p, first s.own = p := ⟨_, rfl⟩
  rw [hp] at GR CU OFG HE ⊢
  clear hp
  obtain ⟨x, hx⟩ : ∃ x, 1024 * p = x := ⟨_, rfl⟩
  rw [hx] at CU OFG ⊢
  clear hx
  go_enter Try.func16, Try.ntmps16
  go_wp2_with fail
  refine CC.out.mono ?_
  rintro e w1 ⟨rfl, rfl⟩
  go_wp2_with fail
  refine GR.out.mono ?_
  rintro e w2 ⟨rfl, h1, h2⟩
  obtain ⟨k2, r2⟩ := NX.out w2 h1 h2
  have C2 := Lib.hid (CU.out w2 k2)
  replace r2 := Lib.hid r2
  clear h1 h2 k2 NX CU GR CC c0 c2 ch
  go_wp2_with fail
  refine C2.out.mono ?_
  rintro e w3 ⟨rfl, u, k, eo, fr, r3⟩
  have e : upN L c (x :: l) c = x :: l := upN_at _ _ _
  have hc := HC.out
  rw [← hN.out] at hc
  have c0 := k.wb.c0
  have c2 := k.wb.c2
  rw [hN.out] at c2
  have ch := (k.wb.ch hc).1
  rw [hds_at _ hc, e] at ch
  have hd : hdI (x :: l) = (x : Int) := rfl
  rw [hd] at ch
  have KW := Lib.hid (k.wb.fresh (Chg.drew (fun _ => False) w3))
  have dis : h.b ≠ h.h := k.wb.dis.2.1
  have dis2 : h.h ≠ h.b := k.wb.dis.2.1.symm
  obtain ⟨h1, h2, h3, h4, h5⟩ := k.inv.take hc e
  obtain ⟨p1, p2, p3, -⟩ := k.inv.pop hc e
  have xl := k.inv.lt p2
  have PL := Lib.hid (place_calls KW.out.lies (x : Int) (by omega))
  rw [h1] at PL
  have ts := k.inv.ts c hc
  have FIN : Hid (∀ t' W', t' = ArenaPure.lay u (x : Int) (zs (tz T c)) → WB W' a h t' T (hds T (upN L c l)) → Chg (S7 a h) w3 W' → AlEnd B w0 w1 a h T s L (s.own.set p (c : Int)) (upN L c l) c x (.returned (.tuple #[.int .i64 (x : Int), .int .i64 0])) W') := fun t' W' et g1 g2 => by
    subst et
    rw [upN_two] at h3 h4
    have eo2 : u.own = s.own.set p (c : Int) := eo.trans HE.out
    refine ⟨rfl, _, k.next g1 h3 g2, eo2, ?_, h5, by rw [← eo2]; exact p2, by rw [upN_at]; exact p3, (r2.out.trans r3).trans g2⟩
    exact (OFG.out _ _ fr).trans h4
  have K3 : Hid (WB ((w3.setCell ⟨h.h, c, none⟩ (.int .i64 (hdI l))).drew) a h u T (hds T (upN L c l)) ∧ Chg (S7 a h) w3 ((w3.setCell ⟨h.h, c, none⟩ (.int .i64 (hdI l))).drew)) := by
    obtain ⟨g1, g2⟩ := k.wb.store hc (hdI l)
    rw [hds_set _ hc l, upN_two] at g1
    exact ⟨g1.fresh (Chg.drew _ _), g2.trans (Chg.drew _ _)⟩
  have WE := Lib.hid h2
  clear k e h1 h2 h3 h4 h5 p1 p2 p3 hd C2 OFG eo fr r3 hc
  go_wp2_with fail
  go_region_held3 (fun w' => w'.cell? ⟨h.b, 0, none⟩ = some (.pointer (some ⟨a.g, 0, none⟩)) ∧ w'.cell? ⟨h.b, 2, none⟩ = some (.slice (some ⟨h.h, 0, none⟩) N h.hc)) (go_keep)
    (first
      | (go_at_call 54; refine PL.out.mono ?_; rintro e w9 ⟨rfl, rfl⟩; have z3 := (KW.out.ch (hN.out.symm ▸ HC.out)).2; have z4 := (KW.out.ch (hN.out.symm ▸ HC.out)).1; skip))
  clear z3 z4 c0 c2 ch KW PL
  generalize (w3.setCell ⟨h.h, c, none⟩ (.int .i64 (hdI l))).drew = w4 at K3 ⊢
  have d0 := K3.out.1.c0
  have d1 := K3.out.1.c1
  have d2 := K3.out.1.ct (hN.out.symm ▸ HC.out)
  rw [hN.out] at d1
  have mk := make_bytes (tz T c) (by omega)
  have xx : Hid (-9223372036854775808 ≤ (x : Int) ∧ (x : Int) ≤ 9223372036854775807) := ⟨by omega, by omega⟩
  have WR : Hid (Calls Try.prog 22 #[(.pointer (some ⟨a.g, 0, none⟩)), (.int .i64 ((x : Int))), .slice (some ⟨w4.heap.size, 0, none⟩) (tz T c) (tz T c)] (w4.alloc (.cells (nums .u8 (List.replicate (tz T c) 0)).toArray 5)).drew fun e w' => e = .returned (.int .i64 0) ∧ WB w' a h (ArenaPure.lay u (x : Int) (zs (tz T c))) T (hds T (upN L c l)) ∧ Chg (S7 a h) w3 w') := by
    have K4 := K3.out.1.fresh ((Chg.alloc (fun _ => False) w4 (.cells (nums .u8 (List.replicate (tz T c) 0)).toArray 5)).trans (Chg.drew _ _))
    have P := write_calls K4.lies (x : Int) (some ⟨w4.heap.size, 0, none⟩) (tz T c) (zs (tz T c)) (sl_lit w4 .u8 (zs (tz T c)) 5 (0, 0)) (zs_bytes _) (by rw [zs_len]; omega) xx.out
    rw [zs_len, WE.out] at P
    refine P.mono fun e w' ⟨h1, h2, h3⟩ => ?_
    obtain ⟨g1, g2⟩ := K4.arena h2 h3
    exact ⟨h1, g1, ((K3.out.2.trans (Chg.alloc _ _ _)).trans (Chg.drew _ _)).trans g2⟩
  generalize ArenaPure.lay u (x : Int) (zs (tz T c)) = t9 at WR FIN
  generalize hz : tz T c = z at *
  replace hz := Lib.hid hz
  generalize (nums .u8 (List.replicate z 0)).toArray = zz at mk WR
  clear K3 WE
  go_wp2_with fail
  go_region_held3 (fun w' => w'.cell? ⟨h.b, 0, none⟩ = some (.pointer (some ⟨a.g, 0, none⟩)) ∧ w'.cell? ⟨h.b, 1, none⟩ = some (.slice (some ⟨h.t, 0, none⟩) N h.tc) ∧ w'.cell? ⟨h.t, c, none⟩ = some (.int .i64 (z : Int))) (go_keep)
    (first
      | (go_at_call 22; refine WR.out.mono ?_; rintro e w5 ⟨rfl, k4, g4⟩; have f0 := k4.c0; have f1 := k4.c1; have f2 := k4.ct (hN.out.symm ▸ HC.out); rw [hN.out] at f1; rw [hz.out] at f2; have F4 := Lib.hid (FIN.out t9 w5 rfl k4 g4); clear k4 g4; skip))
  go_wp2_with fail
  go_ret2
  exact F4.out
end Go.Proofs.Ytmffdlebahdihaa.Slab

/- slices.Collect over a class's list. -/
namespace Go.Proofs.Ytmffdlebahdihaa.Slab
open Go Go.RowKit Go.Shelf Go.Proofs.Ytmffdlebahdihaa.Mem Go.Proofs.Ytmffdlebahdihaa.CodecPure Go.Proofs.Ytmffdlebahdihaa.ArenaPure Go.Proofs.Ytmffdlebahdihaa.Codec Go.Proofs.Ytmffdlebahdihaa.Arena Go.Proofs.Ytmffdlebahdihaa.Item
set_option linter.unusedVariables false
set_option maxRecDepth 100000
attribute [local go_sem] Oper.semAt_some
variable {w w' : World} {a : Ar} {h : Sh} {s s' : St} {T : List Nat} {L : Nat → List Nat} {H : List Int} {c x : Nat}
theorem info_int : (Try.prog.info? 3).map (fun i => (i.zero, i.size, i.bytes)) = some (some (.int .i64 0), 1, 8) := by kernel_rfl
theorem ti_app (l : List Nat) (x : Nat) : Ti (l ++ [x]) = Ti l ++ [(x : Int)] := by unfold Ti; rw [List.map_append]; rfl
set_option maxHeartbeats 2000000 in
theorem seq_calls (k : WB w a h s T (hds T L)) (i : SLI s T L) (hc : c < T.length) (B1 B2 : Nat) (h1 : w.cell? ⟨B1, 0, none⟩ = some (.pointer (some ⟨h.b, 0, none⟩))) (h2 : w.cell? ⟨B2, 0, none⟩ = some (.int .i64 ((c : Int)))) (hlen : (L c).length ≤ 1000000) :
    Calls Try.prog 107 #[.slice none 0 0, .func (.func 88) #[] #[(.pointer (some ⟨B1, 0, none⟩)), (.pointer (some ⟨B2, 0, none⟩))]] w (fun e w' => ∃ v, e = .returned v ∧ Mem.Own w' w.heap.size 3 .i64 v (Ti (L c)) ∧ Chg (fun _ => False) w w') := by
  refine (callsIn_wide (n := 3)).1 ?_
  obtain ⟨i0, hi, hz0, hz1, hz2⟩ := info_parts info_int
  refine callsIn_of_wp_marks Try.func107 rfl trivial ?_ rfl
  simp only [Try.ntmps107, List.size_toArray, List.length_cons, List.length_nil, Nat.reduceAdd, Nat.reduceSub, Array.replicate_succ, Array.replicate_zero, List.push_toArray, List.append_toArray, List.nil_append, List.cons_append]
  have nd := i.nd c hc
  have lt1 : B1 < w.heap.size := World.block_lt_of_cell? w _ h1
  have lt2 : B2 < w.heap.size := World.block_lt_of_cell? w _ h2
  gi_wp2
  have bO := Boxed.new w 25 (.slice none 0 0)
  have hB0 : Below w.heap.size w (w.alloc (.cells #[.slice none 0 0] 25)) := (Below.refl _ w).alloc (Nat.le_refl _) _
  have hst := list_stops 2 (by decide) hc B1 B2 w.heap.size (w.alloc (.cells #[.slice none 0 0] 25)) (fun W x C A hw hx => callsIn_wide.2 (k.gets i hc W x C A hw hx)) (Nat.le_refl _) (by simp; omega) (by simp; omega) (by simp) ((hB0.cell (p := ⟨B1, 0, none⟩) lt1).trans h1) ((hB0.cell (p := ⟨B2, 0, none⟩) lt2).trans h2) k nd (Chg.of_below hB0)
  refine wpIn_rangeFunc_ownG rfl (by decide) (gf := 88) (lb := #[(.pointer (some ⟨B1, 0, none⟩)), (.pointer (some ⟨B2, 0, none⟩))]) rfl trivial (enters_of Try.func88 (by kernel_rfl) rfl) hst
    (fun h k => h.trans k) (fun W l o o' hl h1 h2 h3 => ⟨belowK_b (w := (w.alloc (.cells #[.slice none 0 0] 25))) (by simp) W l o o' hl h1 h2 h3, World.putObj_heap_other (by simp at hl; omega), World.putObj_heap_other (by simp at hl; omega)⟩) (Below.refl _ _) (fun _ => rfl)
    (fun (pre : List Nat) W => (∃ v, Boxed W w.heap.size 25 v ∧ W.ownsRow w.heap.size 3 1 v pre.length (nums .i64 (Ti pre)) ∧ True) ∧ Below w.heap.size w W)
    (fun _ _ _ => False)
    (OwnFrom.and (Own.from (holdsRow_own w.heap.size w.heap.size 25 3 1 (fun (pre : List Nat) => pre.length) (fun pre => nums .i64 (Ti pre)) (fun pre v => True)) _) (ownFrom_below (Nat.le_refl _) (by simp)))
    (fun _ _ _ _ _ hs _ _ => hs)
    ⟨⟨_, bO, World.ownsRow_nil _ _ _ _, trivial⟩, hB0⟩
    (fun (x : Nat) => { tmps := #[.slice none 0 0, .func (.func 88) #[] #[(.pointer (some ⟨B1, 0, none⟩)), (.pointer (some ⟨B2, 0, none⟩))], (.pointer (some ⟨w.heap.size, 0, none⟩)), undef, .slice none 0 0, (.int .i64 ((x : Int))), .func (.func 88) #[] #[(.pointer (some ⟨B1, 0, none⟩)), (.pointer (some ⟨B2, 0, none⟩))], (.int .i64 ((x : Int))), undef, undef, undef, undef, undef], defers := [] }) ?assign ?body ?done ?stop
  case assign =>
    intro l x W K hK
    unfold ev
    gi_wp2
    exact hK
  case body =>
    rintro l pre x W ⟨⟨v, hv, hrow, -⟩, hB⟩ hlt
    have hc := hv.cell
    have hpl : pre.length + 1 ≤ maxLen ∧ (pre.length + 1) * 8 ≤ 140737488355328 := ⟨by unfold maxLen; omega, by omega⟩
    have lt1' := Lib.hid lt1
    have lt2' := Lib.hid lt2
    clear hst bO hB0 k i h1 h2 nd lt1 lt2
    gi_wp2_with (gi_at_builtin; refine wpListIn_append_own _ rfl _ _ 25 rfl w.heap.size 3 i0 (.int .i64 0) 1 8 Try.underlying25 hi hz0 hz1 hz2 rfl (by decide) _ _ _ rfl (hrow.alloc _) ⟨W.heap.size, 0, none⟩ 1 1 [.int .i64 (x : Int)] rfl rfl (cell_one_new _ _ _) (by simp [Value.oneCell']) hpl.1 hpl.2 (by have := hB.size; simp; omega) ?_; intro v' w1 hown' hgrow _; obtain ⟨g', cap', rfl⟩ := ownsRow_succ hown'; obtain ⟨hv1, hv2, hr2, hk2, hb2⟩ := hv.appended (by decide) hrow hB.size (Nat.le_refl _) hown' hgrow; have hc1 := hv1.cell; have hf1 := hv1.frozen)
    exact ⟨hk2.from _, ⟨hb2, hb2.block _ lt1'.out, hb2.block _ lt2'.out⟩, ⟨_, hv2, by rw [List.length_append, List.length_singleton, ti_app, nums_append]; exact hr2, trivial⟩, hB.trans hb2⟩
  case done =>
    rintro D ys W hD rfl ⟨⟨v, hv, hrow, -⟩, hB⟩ hK
    have hc := hv.cell
    gi_wp2
    refine ⟨by simp, .inl ⟨_, _, rfl, run_takeDeferred hK, ?_⟩⟩
    refine ⟨_, results_tmp rfl _ _ _, v, rfl, ?_, Chg.of_below (hB.trans (belowK_b (w := w) (Nat.le_refl _) W D _ _ (by simp at hD; omega) hK rfl rfl))⟩
    have := ownsRow_putObj hrow (.deferred none) hK rfl
    unfold Mem.Own
    rw [ti_len]
    exact this
  case stop =>
    rintro D c pre W _ _ h _
    exact h.elim
theorem collect_calls (k : WB w a h s T (hds T L)) (i : SLI s T L) (hc : c < T.length) (B1 B2 : Nat) (h1 : w.cell? ⟨B1, 0, none⟩ = some (.pointer (some ⟨h.b, 0, none⟩))) (h2 : w.cell? ⟨B2, 0, none⟩ = some (.int .i64 ((c : Int)))) (hlen : (L c).length ≤ 1000000) :
    Calls Try.prog 85 #[.func (.func 88) #[] #[(.pointer (some ⟨B1, 0, none⟩)), (.pointer (some ⟨B2, 0, none⟩))]] w (fun e w' => ∃ v, e = .returned v ∧ Mem.Own w' w.heap.size 3 .i64 v (Ti (L c)) ∧ Chg (fun _ => False) w w') := by
  have S := Lib.hid (seq_calls k i hc B1 B2 h1 h2 hlen)
  clear k i hc h1 h2 hlen
  go_enter Try.func85, Try.ntmps85
  go_wp2_with fail
  refine S.out.mono ?_
  rintro e w1 ⟨v, rfl, o1, g1⟩
  have R := Lib.hid (And.intro o1 g1)
  clear o1 g1 S
  go_wp2_with fail
  go_ret
  exact ⟨v, rfl, R.out⟩
end Go.Proofs.Ytmffdlebahdihaa.Slab

/- slices.IndexFunc, slices.DeleteFunc over a row of numbers of the call's own. -/
namespace Go.Proofs.Ytmffdlebahdihaa.Slab
open Go Go.RowKit Go.Shelf Go.Proofs.Ytmffdlebahdihaa.Mem Go.Proofs.Ytmffdlebahdihaa.CodecPure Go.Proofs.Ytmffdlebahdihaa.ArenaPure Go.Proofs.Ytmffdlebahdihaa.Codec Go.Proofs.Ytmffdlebahdihaa.Arena Go.Proofs.Ytmffdlebahdihaa.Item
set_option linter.unusedVariables false
set_option maxRecDepth 100000
variable {w w' : World} {l : List Nat} {f : Nat → Bool}
/-- a function that tells which numbers go -/
def Gone (g : FuncId) (bx : Nat) (f : Nat → Bool) (S : Nat → Prop) (w : World) : Prop :=
  ∀ W (x : Nat), Chg S w W → x < 32768 → Calls Try.prog g #[(.int .i64 ((x : Int))), (.pointer (some ⟨bx, 0, none⟩))] W fun e w' => e = .returned (.bool (f x)) ∧ Chg (fun _ => False) W w'
theorem Gone.mono {g : FuncId} {bx : Nat} {S S' : Nat → Prop} (h : Gone g bx f S w) (k : ∀ x, S' x → S x) : Gone g bx f S' w := fun W x hc => h W x (hc.mono fun _ _ q => k _ q)
theorem Gone.later {g : FuncId} {bx : Nat} {S : Nat → Prop} {w1 : World} (h : Gone g bx f S w) (hc : Chg S w w1) : Gone g bx f S w1 := fun W x k => h W x (hc.trans k)
def IxEnd (w : World) (l : List Nat) (f : Nat → Bool) (e : Ending) (w' : World) : Prop :=
  Chg (fun _ => False) w w' ∧ ((e = .returned (.int .i64 (-1)) ∧ ∀ x ∈ l, f x = false) ∨ ∃ j : Nat, j < l.length ∧ e = .returned (.int .i64 (j : Int)) ∧ f (l.getD j 0) = true ∧ ∀ x ∈ l.take j, f x = false)
theorem take_succ_d (l : List Nat) (j : Nat) (h : j < l.length) : l.take (j + 1) = l.take j ++ [l.getD j 0] := by
  rw [List.take_succ_eq_append_getElem h, List.getD_eq_getElem?_getD, List.getElem?_eq_getElem h]; rfl
set_option maxHeartbeats 1000000 in
theorem index_calls (g : FuncId) (bx : Nat) (eg : ∀ args w, (callFunc g args).run Try.prog w = .ok (.enter g args) w) (S : Nat → Prop) (hG : Gone g bx f S w) (hl : ∀ x ∈ l, x < 32768) (n1 : l.length ≤ 1000000) (A : Option Addr) (q : Nat) (hs : Sl w .i64 A (Ti l)) :
    Calls Try.prog 106 #[.slice A l.length q, .func (.func g) #[] #[(.pointer (some ⟨bx, 0, none⟩))]] w (IxEnd w l f) := by
  have GO := Lib.hid hG
  have HS := Lib.hid hs
  have HL := Lib.hid hl
  have TA : Hid (∀ j, j < l.length → (Ti l).getD j 0 = ((l.getD j 0 : Nat) : Int)) := fun j hj => by rw [ti_at]; rfl
  have TL := Lib.hid (ti_len l)
  obtain ⟨n, hn⟩ : ∃ n, l.length = n := ⟨_, rfl⟩
  unfold IxEnd
  rw [hn] at n1 ⊢
  replace hn := Lib.hid hn
  clear hG hs hl
  go_enter Try.func106, Try.ntmps106
  go_wp2_with fail
  go_loopg [8] n (fun m v wr => ∃ j : Nat, v = .int .i64 j ∧ m = n - j ∧ j ≤ n ∧ Hid (Chg (fun _ => False) w wr) ∧ Hid (∀ x ∈ l.take j, f x = false))
  case atStart => exact ⟨0, rfl, rfl, by omega, Chg.refl _ _, fun x hx => by simp at hx⟩
  case round =>
    obtain ⟨j, rfl, hg, hj, C, AL⟩ := hrel
    replace hg := Lib.hid hg
    by_cases h1 : j < n
    · have h1' : (j : Int) < (n : Int) := by omega
      have jl : j < l.length := by rw [hn.out]; exact h1
      obtain ⟨ad, rfl, cj⟩ := (HS.out.chg C.out fun _ _ => id) j (by rw [TL.out]; exact jl)
      rw [TA.out j jl] at cj
      have xm : l.getD j 0 ∈ l := by rw [List.getD_eq_getElem?_getD, List.getElem?_eq_getElem jl]; exact List.getElem_mem jl
      have I1 := GO.out wr (l.getD j 0) (C.out.mono fun _ _ q => q.elim) (HL.out _ xm)
      have TK := Lib.hid (take_succ_d l j jl)
      cases e : f (l.getD j 0) with
      | false =>
        rw [e] at I1
        have AL2 : Hid (∀ x ∈ l.take (j + 1), f x = false) := fun x hx => by
          rw [TK.out] at hx
          rcases List.mem_append.1 hx with hx | hx
          · exact AL.out x hx
          · rw [List.mem_singleton.1 hx]; exact e
        generalize l.getD j 0 = x at cj I1
        replace I1 := Lib.hid I1
        clear TK xm e
        go_wp2_with fail
        refine I1.out.mono ?_
        rintro e w2 ⟨rfl, c2⟩
        have C2 := Lib.hid (C.out.trans c2)
        clear c2 I1 cj C
        go_wp2_with fail
        go_roundg (n - (j + 1))
        case measure => have := hg.out; omega
        case rel => exact ⟨j + 1, rfl, rfl, by omega, C2.out, AL2.out⟩
      | true =>
        rw [e] at I1
        replace e := Lib.hid e
        generalize hx : l.getD j 0 = x at cj I1
        replace hx := Lib.hid hx
        replace I1 := Lib.hid I1
        clear TK xm
        go_wp2_with fail
        refine I1.out.mono ?_
        rintro e w2 ⟨rfl, c2⟩
        have C2 := Lib.hid (C.out.trans c2)
        clear c2 I1 cj C
        go_wp2_with fail
        go_ret
        exact ⟨C2.out, .inr ⟨j, h1, rfl, e.out, AL.out⟩⟩
    · have h1' : ¬ (j : Int) < (n : Int) := by omega
      go_wp2_with fail
      go_ret
      refine ⟨C.out, .inl ⟨rfl, fun x hx => AL.out x ?_⟩⟩
      rw [List.take_of_length_le (by rw [hn.out]; omega)]
      exact hx
theorem Own.takes {w : World} {base g n c : Nat} {e : TypeId} {k : IntKind} {R : List Int} (h : Mem.Own w base e k (.slice (some ⟨g, 0, none⟩) n c) R) {i : Nat} (hi : i ≤ R.length) : Mem.Own w base e k (.slice (some ⟨g, 0, none⟩) i c) (R.take i) := by
  have hl : (R.take i).length = i := by rw [List.length_take]; omega
  unfold Mem.Own
  rw [hl]
  refine ⟨by rw [nums_length, hl, Nat.mul_one], ?_⟩
  rcases h.2 with ⟨h0, h1⟩ | ⟨g', cap, cur, hv, hg, hh, hn, hm, hs, ht⟩
  · cases h0
  · injection hv with hA hn' hc
    injection hA with hA
    injection hA with hA
    subst hA hc
    refine .inr ⟨g, c, cur, rfl, hg, hh, by omega, hm, hs, ?_⟩
    unfold nums at ht ⊢
    rw [List.map_take, ← ht, List.take_take]
    congr 1
    omega
theorem Own.setcs {base g c : Nat} {e : TypeId} {k : IntKind} {n : Nat} : ∀ (m o : Nat) (w : World) (R : List Int), Mem.Own w base e k (.slice (some ⟨g, 0, none⟩) n c) R → o + m ≤ R.length →
    ∃ R' : List Int, R'.length = R.length ∧ R'.take o = R.take o ∧ Mem.Own (w.setCells g o (List.replicate m (.int k 0))) base e k (.slice (some ⟨g, 0, none⟩) n c) R' ∧ Chg (fun x => x = g) w (w.setCells g o (List.replicate m (.int k 0)))
  | 0, o, w, R, h, _ => ⟨R, rfl, rfl, h, Chg.refl _ _⟩
  | m + 1, o, w, R, h, hm => by
    obtain ⟨R', h1, h2, h3, h4⟩ := Own.setcs m (o + 1) (w.setCell ⟨g, o, none⟩ (.int k 0)) (R.set o 0) (h.setc o (by omega) 0) (by rw [List.length_set]; omega)
    refine ⟨R', by rw [h1, List.length_set], ?_, h3, (Chg.setCell (S := fun x => x = g) w ⟨g, o, none⟩ (.int k 0) rfl).trans h4⟩
    have : (R'.take (o + 1)).take o = ((R.set o 0).take (o + 1)).take o := by rw [h2]
    rw [List.take_take, List.take_take, Nat.min_eq_left (Nat.le_succ o)] at this
    rw [this]
    exact List.take_set_of_le (Nat.le_refl o)
def nf (f : Nat → Bool) (x : Nat) : Bool := !f x
theorem ti_take (l : List Nat) (j : Nat) : Ti (l.take j) = (Ti l).take j := by unfold Ti; rw [List.map_take]
theorem ti_drop (l : List Nat) (j : Nat) : Ti (l.drop j) = (Ti l).drop j := by unfold Ti; rw [List.map_drop]
/-- the row, when j numbers have been looked at -/
structure DI (w wr : World) (base rb n q : Nat) (l : List Nat) (f : Nat → Bool) (i j : Nat) (R : List Int) : Prop where
  own : Mem.Own wr base 3 .i64 (.slice (some ⟨rb, 0, none⟩) n q) R
  len : R.length = n
  kept : R.take i = Ti ((l.take j).filter (nf f))
  rest : ∀ t, j ≤ t → t < n → R.getD t 0 = ((l.getD t 0 : Nat) : Int)
  i1 : i = ((l.take j).filter (nf f)).length
  i2 : i < j
  chg : Chg (fun x => x = rb) w wr
theorem DI.skip {wr w2 : World} {base rb n q i j : Nat} {R : List Int} (h : DI w wr base rb n q l f i j R) (hj : j < l.length) (hf : f (l.getD j 0) = true) (hc : Chg (fun _ => False) wr w2) : DI w w2 base rb n q l f i (j + 1) R := by
  have e : (l.take (j + 1)).filter (nf f) = (l.take j).filter (nf f) := by
    rw [take_succ_d l j hj, List.filter_append, List.filter_cons_of_neg (by unfold nf; rw [hf]; decide), List.filter_nil, List.append_nil]
  have := h.i2
  exact ⟨h.own.chg hc fun _ _ => id, h.len, by rw [e]; exact h.kept, fun t h1 h2 => h.rest t (by omega) h2, by rw [e]; exact h.i1, by omega, h.chg.trans (hc.mono fun _ _ q => q.elim)⟩
theorem DI.keep {wr w2 : World} {base rb n q i j : Nat} {R : List Int} (h : DI w wr base rb n q l f i j R) (hn : l.length = n) (hj : j < l.length) (hf : f (l.getD j 0) = false) (hc : Chg (fun _ => False) wr w2) :
    DI w (w2.setCell ⟨rb, i, none⟩ (.int .i64 ((l.getD j 0 : Nat) : Int))) base rb n q l f (i + 1) (j + 1) (R.set i ((l.getD j 0 : Nat) : Int)) := by
  have e : (l.take (j + 1)).filter (nf f) = (l.take j).filter (nf f) ++ [l.getD j 0] := by
    rw [take_succ_d l j hj, List.filter_append, List.filter_cons_of_pos (by unfold nf; rw [hf]; rfl), List.filter_nil]
  have i2 := h.i2
  have ln := h.len
  have il : i < R.length := by omega
  refine ⟨(h.own.chg hc fun _ _ => id).setc i il _, by rw [List.length_set]; exact ln, ?_, fun t h1 h2 => ?_, by rw [e, List.length_append, ← h.i1]; rfl, by omega, (h.chg.trans (hc.mono fun _ _ q => q.elim)).trans (Chg.setCell w2 _ _ rfl)⟩
  · rw [e, List.take_succ_eq_append_getElem (by rw [List.length_set]; exact il), List.take_set_of_le (Nat.le_refl i), h.kept, List.getElem_set_self]
    exact (ti_app _ _).symm
  · rw [set_getI _ il, if_neg (by omega)]
    exact h.rest t (by omega) h2
def DlEnd (w : World) (base : Nat) (r : List Nat) (e : Ending) (w' : World) : Prop :=
  ∃ A q, e = .returned (.slice A r.length q) ∧ Mem.Own w' base 3 .i64 (.slice A r.length q) (Ti r) ∧ Chg (fun b => base ≤ b) w w'
set_option maxHeartbeats 2000000 in
theorem delete_calls (g : FuncId) (bx base : Nat) (eg : ∀ args w, (callFunc g args).run Try.prog w = .ok (.enter g args) w) (hG : Gone g bx f (fun b => base ≤ b) w) (hl : ∀ x ∈ l, x < 32768) (n1 : l.length ≤ 1000000) (A : Option Addr) (q : Nat) (ho : Mem.Own w base 3 .i64 (.slice A l.length q) (Ti l)) :
    Calls Try.prog 84 #[.slice A l.length q, .func (.func g) #[] #[(.pointer (some ⟨bx, 0, none⟩))]] w (DlEnd w base (l.filter (nf f))) := by
  have IX := Lib.hid (index_calls g bx eg _ hG hl n1 A q ho.sl)
  have OW := Lib.hid ho
  have GO := Lib.hid hG
  have HL := Lib.hid hl
  have TA : Hid (∀ j, j < l.length → (Ti l).getD j 0 = ((l.getD j 0 : Nat) : Int)) := fun j hj => by rw [ti_at]; rfl
  have TL := Lib.hid (ti_len l)
  obtain ⟨n, hn⟩ : ∃ n, l.length = n := ⟨_, rfl⟩
  unfold IxEnd at IX
  rw [hn] at n1 IX OW ⊢
  replace hn := Lib.hid hn
  clear hG ho hl
  go_enter Try.func84, Try.ntmps84
  go_wp2_with fail
  refine IX.out.mono ?_
  rintro e w1 ⟨c1, ⟨rfl, al⟩ | ⟨j0, hj0, rfl, ft, al⟩⟩
  · have FE : Hid (l.filter (nf f) = l) := List.filter_eq_self.2 fun x hx => by unfold nf; rw [al x hx]; rfl
    have C1 := Lib.hid c1
    clear c1 al IX GO
    go_wp2_with fail
    go_ret
    refine ⟨A, q, by rw [FE.out, hn.out]; rfl, by rw [FE.out, hn.out]; exact OW.out.chg C1.out fun _ _ => id, C1.out.mono fun _ _ h => h.elim⟩
  · have hne : ((j0 : Int) == -1) = false := beq_eq_false_iff_ne.2 (by omega)
    obtain ⟨rb, cs, rfl, hb, -⟩ := OW.out.blk (by rw [TL.out, hn.out]; omega)
    have jl : j0 < l.length := by rw [hn.out]; exact hj0
    have f0 : (l.take j0).filter (nf f) = l.take j0 := List.filter_eq_self.2 fun x hx => by unfold nf; rw [al x hx]; rfl
    have e0 : (l.take (j0 + 1)).filter (nf f) = l.take j0 := by
      rw [take_succ_d l j0 jl, List.filter_append, List.filter_cons_of_neg (by unfold nf; rw [ft]; decide), List.filter_nil, List.append_nil, f0]
    have D0 : Hid (DI w w1 base rb n q l f j0 (j0 + 1) (Ti l)) :=
      ⟨OW.out.chg c1 fun _ _ => id, by rw [TL.out, hn.out], by rw [e0, ti_take], fun t _ h2 => TA.out t (by rw [hn.out]; exact h2), by rw [e0, List.length_take]; omega, Nat.lt_succ_self _, c1.mono fun _ _ q => q.elim⟩
    have HB := Lib.hid hb
    clear c1 al IX f0 e0 ft OW hb
    go_wp2_with fail
    go_loopg [5, 6, 7] n (fun m s5 s6 _ wr => ∃ (i j : Nat) (R : List Int), s5 = .int .i64 i ∧ s6 = .int .i64 j ∧ j ≤ n ∧ i < n ∧ n - j ≤ m ∧ Hid (DI w wr base rb n q l f i j R))
    case atStart => exact ⟨j0, j0 + 1, Ti l, rfl, by congr 1, by omega, by omega, by omega, D0.out⟩
    case round =>
      clear D0
      obtain ⟨i, j, R, rfl, rfl, hj, hi, hg, D⟩ := hrel
      replace hg := Lib.hid hg
      by_cases h1 : j < n
      · have h1' : (j : Int) < (n : Int) := by omega
        have jl : j < l.length := by rw [hn.out]; exact h1
        have cj := (D.out.own.cellAt j (by rw [D.out.len]; exact h1)).1
        obtain ⟨ci, fi⟩ := D.out.own.cellAt i (by rw [D.out.len]; exact hi)
        rw [D.out.rest j (Nat.le_refl _) h1] at cj
        have xm : l.getD j 0 ∈ l := by rw [List.getD_eq_getElem?_getD, List.getElem?_eq_getElem jl]; exact List.getElem_mem jl
        have I1 := GO.out wr (l.getD j 0) (D.out.chg.mono fun b _ e => by subst e; exact HB.out) (HL.out _ xm)
        cases e : f (l.getD j 0) with
        | true =>
          have DS := Lib.hid (fun w2 (hc : Chg (fun _ => False) wr w2) => D.out.skip jl e hc)
          rw [e] at I1
          generalize l.getD j 0 = x at cj I1
          replace I1 := Lib.hid I1
          clear xm e D
          go_wp2_with fail
          refine I1.out.mono ?_
          rintro e w2 ⟨rfl, c2⟩
          have D2 := Lib.hid (DS.out w2 c2)
          clear c2 I1 cj ci fi DS
          go_wp2_with fail
          go_roundg (n - (j + 1))
          case measure => have := hg.out; omega
          case rel => exact ⟨i, j + 1, R, rfl, rfl, by omega, hi, by omega, D2.out⟩
        | false =>
          have DS := Lib.hid (fun w2 (hc : Chg (fun _ => False) wr w2) => D.out.keep hn.out jl e hc)
          have CF := Lib.hid (And.intro ci fi)
          rw [e] at I1
          have i2 := D.out.i2
          generalize l.getD j 0 = x at cj I1 DS
          replace I1 := Lib.hid I1
          clear xm e D ci fi
          go_wp2_with fail
          refine I1.out.mono ?_
          rintro e w2 ⟨rfl, c2⟩
          have D2 := Lib.hid (DS.out w2 c2)
          have ci := c2.cell CF.out.1 id
          have fi : w2.frozen? ⟨rb, i, none⟩ = false := by
            have := c2.block rb (World.block_lt_of_cell? wr _ CF.out.1) id
            unfold World.frozen?
            rw [this]
            exact CF.out.2
          clear c2 I1 cj DS CF
          go_wp2_with fail
          go_roundg (n - (j + 1))
          case measure => have := hg.out; omega
          case rel => exact ⟨i + 1, j + 1, _, rfl, rfl, by omega, by omega, by omega, D2.out⟩
      · have h1' : ¬ (j : Int) < (n : Int) := by omega
        obtain rfl : j = n := by omega
        have hR := D.out.len
        have hq : i < q := by
          obtain ⟨rb', cs, e1, -, -, -, h3, h4, -⟩ := D.out.own.blk (by omega)
          omega
        have hqi : ¬ q = i := by omega
        obtain ⟨R', r1, r2, r3, r4⟩ := Own.setcs (j - i) i wr R D.out.own (by omega)
        have cl := fun ty => Lib.run_clear_slice (P := Try.prog) wr 25 3 ty (.int .i64 0) Try.underlying25 (fun _ => rfl) rfl rfl rb i (j - i) (q - i) (by omega) (fun t ht => by rw [(D.out.own.cellAt (i + t) (by omega)).1]; rfl) (fun t ht => (D.out.own.cellAt (i + t) (by omega)).2)
        have LE : Hid (l.take j = l) := List.take_of_length_le (by rw [hn.out]; exact Nat.le_refl _)
        have hi1 := D.out.i1
        have hk := D.out.kept
        rw [LE.out] at hi1 hk
        have O3 := Lib.hid (Own.takes r3 (i := i) (by omega))
        rw [r2, hk] at O3
        have C3 := Lib.hid ((D.out.chg.trans r4).mono fun b _ e => show base ≤ b by subst e; exact HB.out)
        replace hi1 := Lib.hid hi1
        generalize wr.setCells rb i (List.replicate (j - i) (.int .i64 0)) = w9 at cl O3 C3
        clear r1 r2 r3 r4 D hk hR hg GO HL TA TL
        go_wp2_with fail
        go_ret
        exact ⟨some ⟨rb, 0, none⟩, q, by rw [← hi1.out]; rfl, by rw [← hi1.out]; exact O3.out, C3.out⟩
end Go.Proofs.Ytmffdlebahdihaa.Slab

/- The program's chunks: drop. -/
namespace Go.Proofs.Ytmffdlebahdihaa.Slab
open Go Go.RowKit Go.Shelf Go.Proofs.Ytmffdlebahdihaa.Mem Go.Proofs.Ytmffdlebahdihaa.CodecPure Go.Proofs.Ytmffdlebahdihaa.ArenaPure Go.Proofs.Ytmffdlebahdihaa.Codec Go.Proofs.Ytmffdlebahdihaa.Arena Go.Proofs.Ytmffdlebahdihaa.Item
set_option linter.unusedVariables false
set_option maxRecDepth 100000
attribute [local go_sem] Oper.semAt_some
variable {B : Nat} {w0 w w' : World} {a : Ar} {h : Sh} {s s' : St} {T : List Nat} {L : Nat → List Nat} {H : List Int} {c x p : Nat} {f : Nat → Bool}
theorem len_le : ∀ (m : Nat) (l : List Nat), l.Nodup → (∀ x ∈ l, x < m) → l.length ≤ m
  | 0, l, _, h => by
    cases l with
    | nil => exact Nat.le_refl _
    | cons x l => exact absurd (h x (by simp)) (by omega)
  | m + 1, l, hn, h => by
    have := len_le m (l.erase m) (hn.erase m) fun x hx => by
      have h1 := h x (List.mem_of_mem_erase hx)
      have h2 : x ≠ m := ((List.Nodup.mem_erase_iff hn).1 hx).1
      omega
    rw [List.length_erase] at this
    split at this <;> omega
theorem SLI.len (h : SLI s T L) (hc : c < T.length) : (L c).length ≤ 32768 := len_le _ _ (h.nd c hc) fun x hx => h.lt (h.ch c hc x hx)
theorem SLI.dropped (h : SLI s T L) (hc : c < T.length) {r : List Nat} (hr : ∀ x ∈ r, x ∈ L c) {t : St} (k : Fr T s (upN L c []) t (upN (upN L c []) c r) (· ∈ r)) : Fr T s L t (upN L c r) (fun _ => False) := fun d hd y h1 h2 _ => by
  rw [upN_two] at k
  refine k d hd y h1 ?_ fun hm => ?_
  · by_cases q : d = c
    · subst q; rw [upN_at]; exact List.not_mem_nil
    · rw [upN_ne _ _ q]; exact h2
  · have := h.not_other h1 hc (hr y hm)
    subst this
    exact h2 (hr y hm)
set_option maxHeartbeats 2000000 in
theorem SX.drop (k : SX B w0 w a h T s L) (hc : c < T.length) (g : FuncId) (bx : Nat) (eg : ∀ args w, (callFunc g args).run Try.prog w = .ok (.enter g args) w) (hG : Gone g bx f (fun b => w.heap.size ≤ b) w) :
    Calls Try.prog 48 #[(.pointer (some ⟨h.b, 0, none⟩)), (.int .i64 ((c : Int))), .func (.func g) #[] #[(.pointer (some ⟨bx, 0, none⟩))]] w (XEnd B w0 w a h T s L s.own (upN L c ((L c).filter (nf f))) (fun _ => False) (.tuple #[])) := by
  have KH := Lib.hid k
  have HC := Lib.hid hc
  have GO := Lib.hid hG
  have LE := Lib.hid (k.inv.len hc)
  have LK : Hid (∀ x, S7 a h x ∨ x = h.b → x < w.heap.size) := fun x hx => wb_lt k.wb x (by
    rcases hx with (hx | rfl) | rfl
    · exact .inr (.inr (.inl hx))
    · exact .inr (.inr (.inr (.inr (.inr rfl))))
    · exact .inr (.inr (.inr (.inl rfl))))
  clear k hG hc
  refine (callsIn_wide (n := 3)).1 ?_
  refine callsIn_of_wp_marks Try.func48 rfl trivial ?_ rfl
  simp only [Try.ntmps48, List.size_toArray, List.length_cons, List.length_nil, Nat.reduceAdd, Nat.reduceSub, Array.replicate_succ, Array.replicate_zero, List.push_toArray, List.append_toArray, List.nil_append, List.cons_append]
  refine wpIn_wide.2 ?_
  have C1 : Hid (Chg (fun _ => False) w ((w.alloc (.cells #[(.pointer (some ⟨h.b, 0, none⟩))] 33)).alloc (.cells #[(.int .i64 ((c : Int)))] 3))) := (Chg.alloc _ _ _).trans (Chg.alloc _ _ _)
  have b1 := (Boxed.new w 33 (.pointer (some ⟨h.b, 0, none⟩))).alloc (.cells #[(.int .i64 ((c : Int)))] 3)
  have b2 := Boxed.new (w.alloc (.cells #[(.pointer (some ⟨h.b, 0, none⟩))] 33)) 3 (.int .i64 ((c : Int)))
  rw [World.size_alloc] at b2
  have B1 := Lib.hid b1
  have B2 := Lib.hid b2
  have Z1 : Hid (((w.alloc (.cells #[(.pointer (some ⟨h.b, 0, none⟩))] 33)).alloc (.cells #[(.int .i64 ((c : Int)))] 3)).heap.size = w.heap.size + 1 + 1) := by show _ = _; rw [World.size_alloc, World.size_alloc]
  clear b1 b2
  obtain ⟨w1, hw1⟩ : ∃ w1, (w.alloc (.cells #[(.pointer (some ⟨h.b, 0, none⟩))] 33)).alloc (.cells #[(.int .i64 ((c : Int)))] 3) = w1 := ⟨_, rfl⟩
  rw [hw1] at C1 B1 B2 Z1
  have LC := Lib.hid (list_calls h.b (c : Int) w1)
  replace hw1 := Lib.hid hw1
  go_wp2_with fail
  rw [hw1.out]
  refine LC.out.mono ?_
  rintro e w2 ⟨rfl, e2⟩
  have X1 := ((Boxed.new w1 33 (.pointer (some ⟨h.b, 0, none⟩))).alloc (.cells #[(.int .i64 ((c : Int)))] 3)).cell
  have X2 := (Boxed.new (w1.alloc (.cells #[(.pointer (some ⟨h.b, 0, none⟩))] 33)) 3 (.int .i64 ((c : Int)))).cell
  have C2 : Hid (Chg (fun _ => False) w1 ((w1.alloc (.cells #[(.pointer (some ⟨h.b, 0, none⟩))] 33)).alloc (.cells #[(.int .i64 ((c : Int)))] 3))) := (Chg.alloc _ _ _).trans (Chg.alloc _ _ _)
  have Z2 : Hid (((w1.alloc (.cells #[(.pointer (some ⟨h.b, 0, none⟩))] 33)).alloc (.cells #[(.int .i64 ((c : Int)))] 3)).heap.size = w1.heap.size + 1 + 1) := by show _ = _; simp only [World.size_alloc]
  rw [World.size_alloc] at X2
  rw [← e2] at X1 X2 C2 Z2
  have CC := Lib.hid (collect_calls (KH.out.wb.fresh (C1.out.trans C2.out)) KH.out.inv HC.out w1.heap.size (w1.heap.size + 1) X1 X2 (by have := LE.out; omega))
  clear e2 X1 X2 LC
  generalize hb : w1.heap.size = bb at CC Z2 ⊢
  replace hb := Lib.hid hb
  go_wp2_with fail
  refine CC.out.mono ?_
  rintro e w3 ⟨v, rfl, o3, c3⟩
  obtain ⟨A3, q3, rfl⟩ := o3.form
  rw [ti_len] at o3 ⊢
  have C13 : Hid (Chg (fun _ => False) w w3) := (C1.out.trans C2.out).trans c3
  have B13 : Hid (Boxed w3 w.heap.size 33 (.pointer (some ⟨h.b, 0, none⟩))) := (C2.out.trans c3).keep B1.out id
  have B23 : Hid (Boxed w3 (w.heap.size + 1) 3 (.int .i64 ((c : Int)))) := (C2.out.trans c3).keep B2.out id
  have G3 : Gone g bx f (fun b => w2.heap.size ≤ b) w3 := (GO.out.later (C13.out.mono fun _ _ h => h.elim)).mono fun x hx => by
    have h1 := C1.out.size
    have h2 := C2.out.size
    omega
  have DC := Lib.hid (delete_calls g bx w2.heap.size eg G3 (fun x hx => KH.out.inv.lt (KH.out.inv.ch c HC.out x hx)) (by have := LE.out; omega) A3 q3 o3)
  have S23 := Lib.hid c3.size
  clear c3 o3 G3 GO CC
  go_wp2_with fail
  unfold DlEnd at DC
  refine DC.out.mono ?_
  rintro e w4 ⟨A, q, rfl, o4, c4⟩
  have S24 : Hid (w.heap.size + 2 ≤ w2.heap.size ∧ w2.heap.size ≤ w4.heap.size) := ⟨by have := Z1.out; have := C2.out.size; omega, by have := S23.out; have := c4.size; omega⟩
  have CW4 : Hid (Chg (fun b => w.heap.size + 2 ≤ b) w w4) := (C13.out.mono fun _ _ h => h.elim).trans (c4.mono fun b _ h => by have := S24.out; omega)
  have B14 : Hid (Boxed w4 w.heap.size 33 (.pointer (some ⟨h.b, 0, none⟩))) := c4.keep B13.out (by have := S24.out; omega)
  have B24 : Hid (Boxed w4 (w.heap.size + 1) 3 (.int .i64 ((c : Int)))) := c4.keep B23.out (by have := S24.out; omega)
  have K4 : Hid (WB w4 a h s T (hds T L)) := KH.out.wb.skip CW4.out fun x hx e => by have := wb_lt KH.out.wb x hx; omega
  have O4 := Lib.hid o4
  clear o4 c4 DC C13 B13 B23 B1 B2 C1 C2 hb Z2 Z1 hw1 S23
  have e1 := B14.out.cell
  have e2 := B24.out.cell
  have f2 := K4.out.c2
  obtain ⟨f3, z3⟩ := K4.out.ch HC.out
  have n1 := K4.out.n1
  have hc' : (c : Int) < (T.length : Int) := by have := HC.out; omega
  have K5 : Hid (WB ((w4.setCell ⟨h.h, c, none⟩ (.int .i64 (-1))).drew) a h s T (hds T (upN L c [])) ∧ Chg (S7 a h) w4 ((w4.setCell ⟨h.h, c, none⟩ (.int .i64 (-1))).drew)) := by
    obtain ⟨g1, g2⟩ := K4.out.store HC.out (-1)
    have := hds_set L HC.out []
    rw [show hdI [] = -1 from rfl] at this
    rw [this] at g1
    exact ⟨g1.fresh (Chg.drew _ _), g2.trans (Chg.drew _ _)⟩
  generalize hN : T.length = N at f2 n1 hc'
  clear hN
  go_wp2_with fail
  go_region
  generalize (w4.setCell ⟨h.h, c, none⟩ (.int .i64 (-1))).drew = w5 at K5 ⊢
  have hs5 : w4.heap.size ≤ w5.heap.size := K5.out.2.size
  have nS : Hid (¬ S7 a h w.heap.size ∧ ¬ S7 a h (w.heap.size + 1)) := ⟨fun q => by have := LK.out _ (.inl q); omega, fun q => by have := LK.out _ (.inl q); omega⟩
  have B15 : Hid (Boxed w5 w.heap.size 33 (.pointer (some ⟨h.b, 0, none⟩))) := K5.out.2.keep B14.out nS.out.1
  have B25 : Hid (Boxed w5 (w.heap.size + 1) 3 (.int .i64 ((c : Int)))) := K5.out.2.keep B24.out nS.out.2
  obtain ⟨r, hr⟩ : ∃ r, (L c).filter (nf f) = r := ⟨_, rfl⟩
  have RM : Hid (∀ x ∈ r, x ∈ L c) := fun x hx => by rw [← hr] at hx; exact (List.mem_filter.1 hx).1
  have RL : Hid (r.length ≤ 32768) := by have := List.length_filter_le (nf f) (L c); have := LE.out; rw [← hr]; show _ ≤ _; omega
  have RN : Hid (r.Nodup) := by rw [← hr]; exact (KH.out.inv.nd c HC.out).sublist List.filter_sublist
  rw [hr] at O4 ⊢
  have S45 : Hid (w2.heap.size ≤ w5.heap.size ∧ w.heap.size + 2 ≤ w5.heap.size) := ⟨by have := S24.out; omega, by have := S24.out; omega⟩
  have O5 : Hid (Mem.Own w5 w2.heap.size 3 .i64 (.slice A r.length q) (Ti r)) := O4.out.chg K5.out.2 fun g hg e => by
    have := LK.out g (.inl e)
    have := (World.ownsRow.lt O4.out g hg).1
    have := S24.out
    omega
  have CW5 : Hid (Chg (S7 a h) w w5) := by
    have cc := CW4.out
    have c5 := K5.out.2
    exact ⟨c5.os.trans cc.os, c5.tape.trans cc.tape, c5.output.trans cc.output, Nat.le_trans cc.size c5.size, fun i hi hs => (c5.block i (Nat.lt_of_lt_of_le hi cc.size) hs).trans (cc.block i hi (by omega))⟩
  clear f2 f3 z3 n1 hc' e1 e2 O4 B14 B24 K4 CW4 hs5
  go_wp2_with fail
  refine (back_calls A r.length q w5).mono ?_
  rintro e w6 ⟨rfl, e6⟩
  have C6 : Hid (Chg (fun _ => False) w5 (w5.alloc (.cells #[.slice A r.length q] 25))) := Chg.alloc _ _ _
  have B6 : Hid (Boxed (w5.alloc (.cells #[.slice A r.length q] 25)) w5.heap.size 25 (.slice A r.length q)) := Boxed.new w5 _ _
  have Z6 : Hid ((w5.alloc (.cells #[.slice A r.length q] 25)).heap.size = w5.heap.size + 1) := World.size_alloc _ _
  rw [← e6] at C6 B6 Z6
  clear e6
  have K6 : Hid (WB w6 a h s T (hds T (upN L c []))) := K5.out.1.fresh C6.out
  have CW6 : Hid (Chg (S7 a h) w w6) := CW5.out.trans (C6.out.mono fun _ _ h => h.elim)
  have B16 : Hid (Boxed w6 w.heap.size 33 (.pointer (some ⟨h.b, 0, none⟩))) := C6.out.keep B15.out id
  have B26 : Hid (Boxed w6 (w.heap.size + 1) 3 (.int .i64 ((c : Int)))) := C6.out.keep B25.out id
  have sl6 := (show Sl w5 .i64 A (Ti r) from O5.out.sl).chg C6.out fun _ _ => id
  obtain ⟨sb, hsb, hsb2, hsb3⟩ : ∃ sb, (∀ ad, A = some ad → ad.block = sb) ∧ w2.heap.size ≤ sb ∧ sb < w5.heap.size + 1 := by
    cases hA : A with
    | none => exact ⟨w5.heap.size, (fun ad e => by cases e), S45.out.1, Nat.lt_succ_self _⟩
    | some ad =>
      subst hA
      have h1 := World.ownsRow.lt O5.out ad.block rfl
      exact ⟨ad.block, (fun ad' e => by cases e; rfl), h1.1, by have := h1.2; omega⟩
  have hst := back_stops (Ti r) (by rw [ti_len]; have := RL.out; omega) 2 w5.heap.size sb (by decide) A q w6 (by rw [Z6.out]; omega) (by rw [Z6.out]; omega) (by rw [ti_len]; exact B6.out.cell) sl6 hsb
  have I0 : Hid (PJ w6 a h T s (upN L c []) c (· ∈ r) [] w6) := PJ.start K6.out (KH.out.inv.clear c) HC.out
  go_wp2_with fail
  refine (wpIn_wide (n := 3)).1 ?_
  refine wpIn_rangeFunc_ownG rfl (by decide) (gf := 108) (lb := #[(.pointer (some ⟨w5.heap.size, 0, none⟩))]) rfl trivial (enters_of Try.func108 (by kernel_rfl) rfl) hst
    (fun h k => h.trans k) (fun W l o o' hl h1 h2 h3 => ⟨World.putObj_heap_other (by rw [Z6.out] at hl; omega), World.putObj_heap_other (by rw [Z6.out] at hl; omega)⟩) (Below.refl _ _) (fun _ => rfl)
    (fun (pre : List (Fin (Ti r).length)) W => PJ w6 a h T s (upN L c []) c (· ∈ r) (pre.map fun (i : Fin (Ti r).length) => r.getD i.val 0) W)
    (fun _ _ _ => False)
    (fun s A B row hs hg hr => hs.from hg K6.out fun r e => (hr r e).1)
    (fun _ _ _ _ _ hs _ _ => hs)
    I0.out
    (fun y => { tmps := #[(.pointer (some ⟨h.b, 0, none⟩)), (.int .i64 ((c : Int))), .func (.func g) #[] #[(.pointer (some ⟨bx, 0, none⟩))], (.pointer (some ⟨w.heap.size, 0, none⟩)), (.pointer (some ⟨w.heap.size + 1, 0, none⟩)), undef, .slice A r.length q, undef, .int .i64 ((Ti r).getD y.val 0), (.pointer (some ⟨h.b, 0, none⟩)), (.int .i64 ((c : Int))), .func (.func 88) #[] #[(.pointer (some ⟨bb, 0, none⟩)), (.pointer (some ⟨bb + 1, 0, none⟩))], .slice A3 (L c).length q3, .func (.func g) #[] #[(.pointer (some ⟨bx, 0, none⟩))], .slice A r.length q, (.pointer (some ⟨h.b, 0, none⟩)), (.pointer (some ⟨h.b, 0, none⟩)), .pointer (some ⟨h.b, 2, none⟩), .slice (some ⟨h.h, 0, none⟩) N h.hc, (.int .i64 ((c : Int))), .pointer (some ⟨h.h, c, none⟩), .slice A r.length q, .func (.func 108) #[] #[(.pointer (some ⟨w5.heap.size, 0, none⟩))], .int .i64 (y.val : Int), .int .i64 ((Ti r).getD y.val 0), undef, undef, undef, undef], defers := [] }) ?assign ?body ?done ?stop
  case assign =>
    intro l' y W K hK
    unfold bv
    generalize (Ti r).getD y.val 0 = yv at hK ⊢
    gi_wp2
    exact hK
  case body =>
    rintro l' pre y W hI hlt
    have c0 := (hI.boxed B16.out nS.out.1).cell
    have c3 := (hI.boxed B26.out nS.out.2).cell
    have y1 := y.isLt
    have y2 : y.val < r.length := by have := ti_len r; omega
    have xm : r.getD y.val 0 ∈ r := by rw [List.getD_eq_getElem?_getD, List.getElem?_eq_getElem y2]; exact List.getElem_mem y2
    have xk := KH.out.inv.ch c HC.out _ (RM.out _ xm)
    have PU := hI.push HC.out xk (by rw [upN_at]; exact List.not_mem_nil) xm (KH.out.inv.lt xk)
    rw [show pre.map (fun (i : Fin (Ti r).length) => r.getD i.val 0) ++ [r.getD y.val 0] = (pre ++ [y]).map (fun (i : Fin (Ti r).length) => r.getD i.val 0) by rw [List.map_append]; rfl] at PU
    have xv : (Ti r).getD y.val 0 = ((r.getD y.val 0 : Nat) : Int) := ti_at _ _
    rw [xv]
    clear xk
    generalize r.getD y.val 0 = yy at PU
    have A2 := Lib.hid (((callsIn_wide (n := 0)).2 PU).inRound l')
    have HS : Hid (w5.heap.size + 1 ≤ W.heap.size) := by have := hI.chg.size; rw [Z6.out] at this; exact this
    clear PU xv xm y2 y1 hI hst hlt hr
    gi_wp2_with fail
    refine ⟨trivial, ?_⟩
    refine A2.out.mono ?_
    rintro e w8 ⟨⟨v, rfl⟩, hJ, hc⟩
    replace hJ := Lib.hid hJ
    replace hc := Lib.hid hc
    clear A2 c0 c3
    gi_wp2_with fail
    have W31 := HS.out
    have z6 := Z6.out
    have s5 := S45.out
    have s4 := S24.out
    exact ⟨⟨hc.out.size, fun k o hk h1 _ => (hc.out.block k (Array.getElem?_eq_some_iff.1 h1).1 fun h => by have := LK.out k (.inl h); omega).trans h1⟩, ⟨hc.out.block _ (by omega) fun h => by have := LK.out _ (.inl h); omega, hc.out.block _ (by omega) fun h => by have := LK.out _ (.inl h); omega⟩, hJ.out⟩
  case done =>
    rintro D ys W hD rfl hI hK
    rw [revs_map] at hI
    have HI := Lib.hid (hI.pi (nodup_rev RN.out))
    have HK := Lib.hid hK
    clear hI hK hst
    gi_wp2
    go_wp2_with fail
    have z6 := Z6.out
    have s5 := S45.out
    refine ⟨by simp, .inl ⟨_, _, rfl, run_takeDeferred HK.out, ?_⟩⟩
    have CP := chg_put W D (.deferred none)
    obtain ⟨t, h1, h2, h3, h4⟩ := HI.out.ex
    rw [List.reverse_reverse, upN_at, List.append_nil] at h1 h2 h4
    have h4' := KH.out.inv.dropped HC.out RM.out h4
    rw [upN_two] at h1 h2
    have cw : Chg (S7 a h) w W := CW6.out.trans HI.out.chg
    have cw2 := chg_beyond cw CP fun b hb e => by have := Option.some.inj e; omega
    have lt := wb_lt KH.out.wb
    rw [hr]
    refine ⟨_, results_none rfl _ _ _, rfl, t, KH.out.next (h1.skip CP fun x hx e => by have := lt x hx; have := Option.some.inj e; omega) h2 cw2, h3, h4', cw2⟩
  case stop =>
    rintro D c' pre W _ _ h _
    exact h.elim
end Go.Proofs.Ytmffdlebahdihaa.Slab

