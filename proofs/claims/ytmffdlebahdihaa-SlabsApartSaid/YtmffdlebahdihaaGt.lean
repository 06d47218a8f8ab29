import Derived.Test.YtmffdlebahdihaaGs
/- The program's chunks: Release, Hold, Move. -/
namespace Go.Proofs.Ytmffdlebahdihaa.Slab
open Go Go.RowKit Go.Shelf Go.Proofs.Ytmffdlebahdihaa.Mem Go.Proofs.Ytmffdlebahdihaa.CodecPure Go.Proofs.Ytmffdlebahdihaa.ArenaPure Go.Proofs.Ytmffdlebahdihaa.Codec Go.Proofs.Ytmffdlebahdihaa.Arena Go.Proofs.Ytmffdlebahdihaa.Item
set_option linter.unusedVariables false
set_option maxRecDepth 100000
variable {B : Nat} {w0 w w' : World} {a : Ar} {h : Sh} {s s' : St} {T : List Nat} {L : Nat → List Nat} {H : List Int} {c x p : Nat} {f : Nat → Bool}
theorem hmf : ∀ (fn : Fn) (first cap : Array Value) (w : World), (Instr.makeFunc fn first cap).run Try.prog w = .ok (.func fn first cap) w := fun _ _ _ _ => rfl
/-- the functions that tell what goes -/
theorem gone_page (g : Nat) (p : Nat) (ty : TypeId) {S : Nat → Prop} (hb : Boxed w g ty (.int .i64 ((p : Int)))) (hS : ¬ S g) : Gone 49 g (fun x => decide (x / 1024 = p)) S w := fun W x hc hx => by
  have hk : Boxed W g ty (.int .i64 ((p : Int))) := hc.keep hb hS
  have hcell := hk.cell
  clear hk hb hc
  have q1 : (x : Int).tdiv 1024 = ((x / 1024 : Nat) : Int) := rfl
  have q4 : (x : Int) / 1024 = ((x / 1024 : Nat) : Int) := rfl
  have hd : (((x / 1024 : Nat) : Int) == (p : Int)) = decide (x / 1024 = p) := by
    by_cases e : x / 1024 = p
    · rw [decide_eq_true e, e]; exact beq_self_eq_true _
    · rw [decide_eq_false e, beq_eq_false_iff_ne]; omega
  have hd2 : decide (((x / 1024 : Nat) : Int) = (p : Int)) = decide (x / 1024 = p) := by
    by_cases e : x / 1024 = p
    · rw [decide_eq_true e, e]; exact decide_eq_true rfl
    · rw [decide_eq_false e]; exact decide_eq_false (by omega)
  show Calls _ _ _ _ fun e w' => e = .returned (.bool (decide (x / 1024 = p))) ∧ _
  rw [← hd]
  have xl : x / 1024 < 32 := by omega
  clear hd hd2 hx
  generalize x / 1024 = xp at *
  go_enter Try.func49, Try.ntmps49
  go_wp2_with fail
  go_ret
  exact ⟨rfl, Chg.refl _ _⟩
theorem gone_one (g : Nat) (p : Nat) (ty : TypeId) {S : Nat → Prop} (hb : Boxed w g ty (.int .i64 ((p : Int)))) (hS : ¬ S g) : Gone 59 g (fun x => decide (x = p)) S w := fun W x hc hx => by
  have hk : Boxed W g ty (.int .i64 ((p : Int))) := hc.keep hb hS
  have hcell := hk.cell
  clear hk hb hc
  have hd : ((x : Int) == (p : Int)) = decide (x = p) := by
    by_cases e : x = p
    · rw [decide_eq_true e, e]; exact beq_self_eq_true _
    · rw [decide_eq_false e, beq_eq_false_iff_ne]; omega
  show Calls _ _ _ _ fun e w' => e = .returned (.bool (decide (x = p))) ∧ _
  rw [← hd]
  clear hd hx
  go_enter Try.func59, Try.ntmps59
  go_wp2_with fail
  go_ret
  exact ⟨rfl, Chg.refl _ _⟩
theorem SX.hold_ok (k : SX B w0 w a h T s L) (hc : c < T.length) (hm : x ∈ L c) : Calls Try.prog 25 #[(.pointer (some ⟨h.b, 0, none⟩)), (.int .i64 ((x : Int)))] w (XEnd B w0 w a h T s L s.own (upN L c ((L c).filter (nf fun y => decide (y = x)))) (fun _ => False) (.int .i64 0)) := by
  have hx := k.inv.ch c hc x hm
  have BX : Hid (Boxed (w.alloc (.cells #[(.int .i64 ((x : Int)))] 3)) w.heap.size 3 (.int .i64 ((x : Int)))) := Boxed.new w _ _
  have C1 : Hid (Chg (fun _ => False) w (w.alloc (.cells #[(.int .i64 ((x : Int)))] 3))) := Chg.alloc _ _ _
  have CL := Lib.hid (fun W (hw : Chg (fun _ => False) w W) => class_ok (k.wb.fresh hw) k.inv hc hx)
  have IF := Lib.hid (fun W (hw : Chg (fun _ => False) w W) => isfree_ok (k.wb.fresh hw) k.inv hc hx)
  rw [decide_eq_true hm] at IF
  have DR := Lib.hid (fun W (hw : Chg (fun _ => False) w W) g eg hG => (k.fresh hw).drop (f := fun y => decide (y = x)) hc 59 g eg hG)
  have eg : ∀ args w, (callFunc 59 args).run Try.prog w = .ok (.enter 59 args) w := enters_of Try.func59 (by kernel_rfl) rfl
  have e0 := BX.out.cell
  clear k hm hx
  go_enter Try.func25, Try.ntmps25
  go_wp2_with fail
  generalize w.alloc (.cells #[(.int .i64 ((x : Int)))] 3) = w1 at BX C1 e0 ⊢
  generalize hb : w.heap.size = b0 at BX e0 ⊢
  replace hb := Lib.hid hb
  refine (CL.out w1 C1.out).mono ?_
  rintro e w2 ⟨rfl, c2⟩
  have C2 := Lib.hid (C1.out.trans c2)
  have BX2 : Hid (Boxed w2 b0 3 (.int .i64 ((x : Int)))) := c2.keep BX.out id
  have e2 := BX2.out.cell
  clear c2 e0 BX CL
  go_wp2_with fail
  refine (IF.out w2 C2.out).mono ?_
  rintro e w3 ⟨rfl, c3⟩
  have C3 := Lib.hid (C2.out.trans c3)
  have BX3 : Hid (Boxed w3 b0 3 (.int .i64 ((x : Int)))) := c3.keep BX2.out id
  have D3 := Lib.hid (DR.out w3 C3.out b0 (fun args w => eg args w) (gone_one b0 x _ BX3.out (by have := blk_lt BX3.out; omega)))
  clear c3 e2 BX2 IF C1 C2 DR
  go_wp2_with fail
  refine D3.out.mono ?_
  rintro e w4 ⟨rfl, t, h1, h2, h3, h4⟩
  have F := Lib.hid (show XEnd B w0 w a h T s L s.own (upN L c ((L c).filter (nf fun y => decide (y = x)))) (fun _ => False) (.int .i64 0) (.returned (.int .i64 0)) w4 from ⟨rfl, t, h1, h2, h3, (C3.out.mono fun _ _ h => h.elim).trans h4⟩)
  clear h1 h2 h3 h4 D3
  go_wp2_with fail
  go_ret
  exact F.out
/-! ### Release -/
theorem SX.release_no (k : SX B w0 w a h T s L) (n : Int) (hn : n < 0 ∨ (s.own.length : Int) ≤ n) (E : Nat → Prop) : Calls Try.prog 15 #[(.pointer (some ⟨h.b, 0, none⟩)), (.int .i64 n)] w (XEnd B w0 w a h T s L s.own L E (.int .i64 1)) := by
  have C1 : Hid (Chg (fun _ => False) w (w.alloc (.cells #[(.int .i64 n)] 3))) := Chg.alloc _ _ _
  have e0 := (Boxed.new w 3 (.int .i64 n)).cell
  have CK := Lib.hid (chunks_no (k.wb.fresh C1.out) k.inv n hn)
  have SM : Hid (∀ w', Chg (fun _ => False) w w' → XEnd B w0 w a h T s L s.own L E (.int .i64 1) (.returned (.int .i64 1)) w') := fun w' hc => k.same rfl hc
  clear k hn
  go_enter Try.func15, Try.ntmps15
  go_wp2_with fail
  generalize w.alloc (.cells #[(.int .i64 n)] 3) = w1 at C1 e0 CK ⊢
  refine CK.out.mono ?_
  rintro e w2 ⟨rfl, rfl⟩
  have S1 := Lib.hid (SM.out _ C1.out)
  clear SM CK
  go_wp2_with fail
  go_ret
  exact S1.out
theorem SX.release_free (k : SX B w0 w a h T s L) (hp : p < s.own.length) (ho : s.own.getD p 0 < 0) (E : Nat → Prop) : Calls Try.prog 15 #[(.pointer (some ⟨h.b, 0, none⟩)), (.int .i64 ((p : Int)))] w (XEnd B w0 w a h T s L s.own L E (.int .i64 5)) := by
  have C1 : Hid (Chg (fun _ => False) w (w.alloc (.cells #[(.int .i64 ((p : Int)))] 3))) := Chg.alloc _ _ _
  have e0 := (Boxed.new w 3 (.int .i64 ((p : Int)))).cell
  have CK := Lib.hid (chunks_free (k.wb.fresh C1.out) k.inv hp ho)
  have SM : Hid (∀ w', Chg (fun _ => False) w w' → XEnd B w0 w a h T s L s.own L E (.int .i64 5) (.returned (.int .i64 5)) w') := fun w' hc => k.same rfl hc
  clear k hp ho
  go_enter Try.func15, Try.ntmps15
  go_wp2_with fail
  generalize w.alloc (.cells #[(.int .i64 ((p : Int)))] 3) = w1 at C1 e0 CK ⊢
  refine CK.out.mono ?_
  rintro e w2 ⟨rfl, rfl⟩
  have S1 := Lib.hid (SM.out _ C1.out)
  clear SM CK
  go_wp2_with fail
  go_ret
  exact S1.out
theorem chl_le (T : List Nat) (c p : Nat) : (chl T c p).length ≤ 1024 := by rw [chl_len]; exact Nat.div_le_self _ _
theorem all_is {l : List Nat} {m : List Nat} (b : Bool) : (l.all fun x => decide (x ∈ m) == b) = true ↔ ∀ x ∈ l, (x ∈ m ↔ b = true) := by
  rw [List.all_eq_true]
  constructor
  · intro h x hx
    have := h x hx
    cases b
    · simpa using this
    · simpa using this
  · intro h x hx
    have := h x hx
    cases b
    · simpa using this
    · simpa using this
theorem SX.release_busy (k : SX B w0 w a h T s L) (hc : c < T.length) (hp : p < s.own.length) (ho : s.own.getD p 0 = (c : Int)) (hb : ¬ ∀ x ∈ chl T c p, x ∈ L c) (E : Nat → Prop) : Calls Try.prog 15 #[(.pointer (some ⟨h.b, 0, none⟩)), (.int .i64 ((p : Int)))] w (XEnd B w0 w a h T s L s.own L E (.int .i64 8)) := by
  have C1 : Hid (Chg (fun _ => False) w (w.alloc (.cells #[(.int .i64 ((p : Int)))] 3))) := Chg.alloc _ _ _
  have e0 := (Boxed.new w 3 (.int .i64 ((p : Int)))).cell
  have CK := Lib.hid (chunks_ok (k.wb.fresh C1.out) k.inv hc hp ho)
  have AL := Lib.hid (fun W (hw : Chg (fun _ => False) w W) A q hs => all_calls (k.wb.fresh hw) k.inv hc (chl T c p) (fun x hx => chl_chk hp ho hx) (by have := chl_le T c p; omega) A q hs true)
  have ea : ((chl T c p).all fun x => decide (x ∈ L c) == true) = false := by
    rw [← Bool.not_eq_true, all_is]
    exact fun q => hb fun x hx => (q x hx).2 rfl
  rw [ea] at AL
  have SM : Hid (∀ w', Chg (fun _ => False) w w' → XEnd B w0 w a h T s L s.own L E (.int .i64 8) (.returned (.int .i64 8)) w') := fun w' hc => k.same rfl hc
  clear k hp ho hb hc ea
  generalize chl T c p = l at *
  go_enter Try.func15, Try.ntmps15
  go_wp2_with fail
  generalize w.alloc (.cells #[(.int .i64 ((p : Int)))] 3) = w1 at C1 e0 CK ⊢
  unfold CkEnd at CK
  refine CK.out.mono ?_
  rintro e w2 ⟨A, q, rfl, o2, c2⟩
  have C2 := Lib.hid (C1.out.trans c2)
  have A2 := Lib.hid (AL.out w2 C2.out A q o2.sl)
  clear o2 c2 CK e0 AL C1
  go_wp2_with fail
  refine A2.out.mono ?_
  rintro e w3 ⟨rfl, c3⟩
  have S1 := Lib.hid (SM.out _ (C2.out.trans c3))
  clear SM A2 c3 C2
  go_wp2_with fail
  go_ret
  exact S1.out
theorem SLI.no_page (h : SLI s T L) (hc : c < T.length) (ho : s.own.getD p 0 = (c : Int)) (hn : ∀ x ∈ chl T c p, x ∉ L c) : ∀ d, d < T.length → ∀ x ∈ L d, x / 1024 ≠ p := fun d hd x hx e => by
  have k := h.ch d hd x hx
  have k2 := k.cls
  rw [e, ho] at k2
  have : d = c := by omega
  subst this
  have ts := h.ts d hd
  have := chl_of k (by omega)
  rw [e] at this
  exact hn x this hx
/-- the lists without a page's chunks -/
def noPg (L : Nat → List Nat) (c p : Nat) : Nat → List Nat := upN L c ((L c).filter (nf fun y => decide (y / 1024 = p)))
theorem noPg_page (h : SLI s T L) (hc : c < T.length) (ho : s.own.getD p 0 = (c : Int)) : ∀ d, d < T.length → ∀ x ∈ noPg L c p d, x / 1024 ≠ p := fun d hd x hx e => by
  unfold noPg at hx
  by_cases q : d = c
  · subst q
    rw [upN_at] at hx
    have := (List.mem_filter.1 hx).2
    have h2 : (nf (fun y => decide (y / 1024 = p)) x) = false := by show (!(decide (x / 1024 = p))) = false; rw [decide_eq_true e]; rfl
    rw [h2] at this
    cases this
  · rw [upN_ne _ _ q] at hx
    have k := (h.ch d hd x hx).cls
    rw [e, ho] at k
    omega
set_option maxHeartbeats 2000000 in
theorem SX.release_ok (k : SX B w0 w a h T s L) (hc : c < T.length) (hp : p < s.own.length) (ho : s.own.getD p 0 = (c : Int)) (hb : ∀ x ∈ chl T c p, x ∈ L c) : Calls Try.prog 15 #[(.pointer (some ⟨h.b, 0, none⟩)), (.int .i64 ((p : Int)))] w (XEnd B w0 w a h T s L (s.own.set p (-1)) (noPg L c p) (fun _ => False) (.int .i64 0)) := by
  have BX : Hid (Boxed (w.alloc (.cells #[(.int .i64 ((p : Int)))] 3)) w.heap.size 3 (.int .i64 ((p : Int)))) := Boxed.new w _ _
  have C1 : Hid (Chg (fun _ => False) w (w.alloc (.cells #[(.int .i64 ((p : Int)))] 3))) := Chg.alloc _ _ _
  have e0 := BX.out.cell
  have CK := Lib.hid (chunks_ok (k.wb.fresh C1.out) k.inv hc hp ho)
  have AL := Lib.hid (fun W (hw : Chg (fun _ => False) w W) A q hs => all_calls (k.wb.fresh hw) k.inv hc (chl T c p) (fun x hx => chl_chk hp ho hx) (by have := chl_le T c p; omega) A q hs true)
  have ea : ((chl T c p).all fun x => decide (x ∈ L c) == true) = true := (all_is true).2 fun x hx => ⟨fun _ => rfl, fun _ => hb x hx⟩
  rw [ea] at AL
  have KW := Lib.hid (fun W (hw : Chg (fun _ => False) w W) => k.fresh hw)
  have EO : owner s (p : Int) = ((c : Int), 0) := by unfold owner; rw [if_neg (by omega), Int.toNat_natCast, ho]
  have OC := Lib.hid (fun W (hW : Chg (fun _ => False) w W) => owner_calls (k.wb.fresh hW).lies (p : Int))
  rw [EO] at OC
  have DR := Lib.hid (fun W (hw : Chg (fun _ => False) w W) g eg hG => (k.fresh hw).drop (f := fun y => decide (y / 1024 = p)) hc 49 g eg hG)
  have eg : ∀ args w, (callFunc 49 args).run Try.prog w = .ok (.enter 49 args) w := enters_of Try.func49 (by kernel_rfl) rfl
  have LK : Hid (∀ x, S7 a h x ∨ x = h.b → x < w.heap.size) := fun x hx => wb_lt k.wb x (by
    rcases hx with (hx | rfl) | rfl
    · exact .inr (.inr (.inl hx))
    · exact .inr (.inr (.inr (.inr (.inr rfl))))
    · exact .inr (.inr (.inr (.inl rfl))))
  have RT : Hid (∀ W t, SX B w0 W a h T t (noPg L c p) → t.own = s.own → Fr T s L t (noPg L c p) (fun _ => False) → Chg (S7 a h) w W → Calls Try.prog 50 #[(.pointer (some ⟨a.g, 0, none⟩)), (.int .i64 ((p : Int)))] W fun e w' => e = .returned (.int .i64 0) ∧ w'.cell? ⟨h.b, 0, none⟩ = some (.pointer (some ⟨a.g, 0, none⟩)) ∧ Chg (S7 a h) W w' ∧ XEnd B w0 w a h T s L (s.own.set p (-1)) (noPg L c p) (fun _ => False) (.int .i64 0) (.returned (.int .i64 0)) w') := fun W t kW eo fr cg => by
    obtain ⟨u, u1, u2, u3, u4⟩ := kW.inv.ret (p := p) (by rw [eo]; exact hp) (by rw [eo, ho]; omega) (noPg_page k.inv hc ho)
    have P := return_calls kW.wb.lies (p : Int)
    rw [u1] at P
    refine P.mono fun e w' ⟨e1, h1, h2⟩ => ?_
    obtain ⟨a1, a2⟩ := kW.wb.arena h1 h2
    refine ⟨e1, a1.c0, a2, rfl, u, kW.next a1 u3 a2, by rw [u2, eo], fun d hd y y1 y2 _ => ?_, cg.trans a2⟩
    obtain ⟨b1, b2, b3⟩ := fr d hd y y1 y2 id
    obtain ⟨c1, c2, c3⟩ := u4 d hd y b1 b2 fun e => by
      have := y1.cls
      rw [e, ho] at this
      have : d = c := by omega
      subst this
      have ts := k.inv.ts d hd
      have := chl_of y1 (by omega)
      rw [e] at this
      exact y2 (hb y this)
    exact ⟨c1, c2, c3.trans b3⟩
  clear k hp ho hb hc ea EO
  generalize chl T c p = l at *
  go_enter Try.func15, Try.ntmps15
  go_wp2_with fail
  generalize w.alloc (.cells #[(.int .i64 ((p : Int)))] 3) = w1 at C1 e0 CK BX ⊢
  generalize hb : w.heap.size = b0 at e0 BX ⊢
  replace hb := Lib.hid hb
  unfold CkEnd at CK
  refine CK.out.mono ?_
  rintro e w2 ⟨A, q, rfl, o2, c2⟩
  have C2 := Lib.hid (C1.out.trans c2)
  have A2 := Lib.hid (AL.out w2 C2.out A q o2.sl)
  have BX2 : Hid (Boxed w2 b0 3 (.int .i64 ((p : Int)))) := c2.keep BX.out id
  clear o2 c2 CK e0 AL C1 BX
  go_wp2_with fail
  refine A2.out.mono ?_
  rintro e w3 ⟨rfl, c3⟩
  have C3 := Lib.hid (C2.out.trans c3)
  have BX3 : Hid (Boxed w3 b0 3 (.int .i64 ((p : Int)))) := c3.keep BX2.out id
  have e3 := BX3.out.cell
  have a3 := (KW.out w3 C3.out).wb.c0
  have OC3 : Hid (∀ n, Calls Try.prog 47 #[(.pointer (some ⟨a.g, 0, none⟩)), (.int .i64 ((p : Int)))] (w3.drewN n) fun e w' => e = .returned (.tuple #[.int .i64 (c : Int), .int .i64 0]) ∧ w' = w3.drewN n) := fun n => (OC.out _ (C3.out.trans (Chg.drewN _ _ _))).mono fun _ _ ⟨e, h⟩ => ⟨e, h.symm⟩
  have KD : Hid (∀ n, Chg (fun _ => False) w (w3.drewN n) ∧ Boxed (w3.drewN n) b0 3 (.int .i64 ((p : Int)))) := fun n => ⟨C3.out.trans (Chg.drewN _ _ _), (Chg.drewN (fun _ => False) w3 n).keep BX3.out id⟩
  clear A2 c3 C2 BX2 OC C3 BX3
  go_wp2_with fail
  go_quiet ((go_at_call 47; exact Calls.quiet_of_same (OC3.out _)))
  obtain ⟨C4, BX4⟩ := KD.out nq
  generalize w3.drewN nq = w4 at C4 BX4 ⊢
  have D4 := Lib.hid (DR.out w4 C4 b0 (fun args w => eg args w) (gone_page b0 p _ BX4 (by have := blk_lt BX4; omega)))
  replace C4 := Lib.hid C4
  replace BX4 := Lib.hid BX4
  clear KD OC3 e3 a3 DR
  go_wp2_with fail
  unfold XEnd at D4
  refine D4.out.mono ?_
  rintro e w5 ⟨rfl, t, h1, h2, h3, h4⟩
  have h4' : Chg (S7 a h) w w5 := (C4.out.mono fun _ _ h => h.elim).trans h4
  have nS : ¬ S7 a h b0 := fun q => by have := LK.out _ (.inl q); have := hb.out; omega
  have BX5 : Boxed w5 b0 3 (.int .i64 ((p : Int))) := h4.keep BX4.out nS
  have RT5 : Hid (Calls Try.prog 50 #[(.pointer (some ⟨a.g, 0, none⟩)), (.int .i64 ((p : Int)))] (World.drew w5) fun e w' => e = .returned (.int .i64 0) ∧ w'.cell? ⟨h.b, 0, none⟩ = some (.pointer (some ⟨a.g, 0, none⟩)) ∧ w'.cell? ⟨b0, 0, none⟩ = some (.int .i64 ((p : Int))) ∧ XEnd B w0 w a h T s L (s.own.set p (-1)) (noPg L c p) (fun _ => False) (.int .i64 0) (.returned (.int .i64 0)) w') :=
    (RT.out _ t (h1.fresh (Chg.drew _ w5)) h2 h3 (h4'.trans (Chg.drew _ w5))).mono fun e w' ⟨g1, g2, g3, g4⟩ => by
      have hbx : Boxed w' b0 3 (.int .i64 ((p : Int))) := g3.keep BX5 nS
      exact ⟨g1, g2, hbx.cell, g4⟩
  have f0 := h1.wb.c0
  have f1 := BX5.cell
  clear h1 h2 h3 h4 h4' D4 RT BX4 C4 eg BX5 nS
  go_wp2_with fail
  go_region_held3 (fun w' => w'.cell? ⟨h.b, 0, none⟩ = some (.pointer (some ⟨a.g, 0, none⟩)) ∧ w'.cell? ⟨b0, 0, none⟩ = some (.int .i64 ((p : Int)))) (go_keep)
    (first
      | (go_at_call 50; refine RT5.out.mono ?_; rintro e w6 ⟨rfl, g0, g1, F⟩; have F6 := Lib.hid F; clear F; skip))
  go_wp2_with fail
  go_ret
  exact F6.out
end Go.Proofs.Ytmffdlebahdihaa.Slab

/- The program's chunks: Move of the first page. -/
namespace Go.Proofs.Ytmffdlebahdihaa.Slab
open Go Go.RowKit Go.Shelf Go.Proofs.Ytmffdlebahdihaa.Mem Go.Proofs.Ytmffdlebahdihaa.CodecPure Go.Proofs.Ytmffdlebahdihaa.ArenaPure Go.Proofs.Ytmffdlebahdihaa.Codec Go.Proofs.Ytmffdlebahdihaa.Arena Go.Proofs.Ytmffdlebahdihaa.Item
set_option linter.unusedVariables false
set_option maxRecDepth 100000
variable {B : Nat} {w0 w w' : World} {a : Ar} {h : Sh} {s s' : St} {T : List Nat} {L : Nat → List Nat} {H : List Int} {c d x p : Nat} {f : Nat → Bool}
theorem SX.move_busy (k : SX B w0 w a h T s L) (hc : c < T.length) (hd : d < T.length) (hp : p < s.own.length) (ho : s.own.getD p 0 = (c : Int)) (hb : ¬ ∀ x ∈ chl T c p, x ∉ L c) (E : Nat → Prop) : Calls Try.prog 24 #[(.pointer (some ⟨h.b, 0, none⟩)), (.int .i64 ((p : Int))), (.int .i64 ((d : Int)))] w (XEnd B w0 w a h T s L s.own L E (.int .i64 8)) := by
  have CK := Lib.hid (chunks_ok k.wb k.inv hc hp ho)
  have AL := Lib.hid (fun W (hw : Chg (fun _ => False) w W) A q hs => all_calls (k.wb.fresh hw) k.inv hc (chl T c p) (fun x hx => chl_chk hp ho hx) (by have := chl_le T c p; omega) A q hs false)
  have ea : ((chl T c p).all fun x => decide (x ∈ L c) == false) = false := by
    rw [← Bool.not_eq_true, all_is]
    exact fun q => hb fun x hx hm => by have := (q x hx).1 hm; cases this
  rw [ea] at AL
  have CC := Lib.hid (fun W (hw : Chg (fun _ => False) w W) => class_calls (k.wb.fresh hw) (d : Int))
  have hd' : (d : Int) < (T.length : Int) := by omega
  rw [decide_eq_true ⟨by omega, hd'⟩] at CC
  have SM : Hid (∀ w', Chg (fun _ => False) w w' → XEnd B w0 w a h T s L s.own L E (.int .i64 8) (.returned (.int .i64 8)) w') := fun w' hc => k.same rfl hc
  clear k hp ho hb hc hd hd' ea
  generalize chl T c p = l at *
  go_enter Try.func24, Try.ntmps24
  go_wp2_with fail
  unfold CkEnd at CK
  refine CK.out.mono ?_
  rintro e w2 ⟨A, q, rfl, o2, c2⟩
  have C2 := Lib.hid c2
  have A2 := Lib.hid (AL.out w2 C2.out A q o2.sl)
  have D2 := Lib.hid (CC.out w2 C2.out)
  clear o2 c2 CK AL CC
  go_wp2_with fail
  refine D2.out.mono ?_
  rintro e w3 ⟨rfl, rfl⟩
  clear D2
  go_wp2_with fail
  refine A2.out.mono ?_
  rintro e w4 ⟨rfl, c3⟩
  have S1 := Lib.hid (SM.out _ (C2.out.trans c3))
  clear SM A2 c3 C2
  go_wp2_with fail
  go_ret
  exact S1.out
theorem first_set0 (own : List Int) (h : 0 < own.length) : first (own.set 0 (-1)) = 0 := by
  cases own with
  | nil => exact absurd h (by simp)
  | cons x l =>
    unfold first
    rw [List.set_cons_zero, List.findIdx_cons]
    rfl
set_option maxHeartbeats 1000000 in
theorem SX.move_ok (k : SX B w0 w a h T s L) (hc : c < T.length) (hd : d < T.length) (hp : 0 < s.own.length) (ho : s.own.getD 0 0 = (c : Int)) (hb : ∀ x ∈ chl T c 0, x ∉ L c) : Calls Try.prog 24 #[(.pointer (some ⟨h.b, 0, none⟩)), (.int .i64 0), (.int .i64 ((d : Int)))] w (XEnd B w0 w a h T s L (s.own.set 0 (d : Int)) (upN L d (chl T d 0 ++ L d)) (fun _ => True) (.int .i64 0)) := by
  have CK := Lib.hid (chunks_ok k.wb k.inv hc hp ho)
  have AL := Lib.hid (fun W (hw : Chg (fun _ => False) w W) A q hs => all_calls (k.wb.fresh hw) k.inv hc (chl T c 0) (fun x hx => chl_chk hp ho hx) (by have := chl_le T c 0; omega) A q hs false)
  have ea : ((chl T c 0).all fun x => decide (x ∈ L c) == false) = true := (all_is false).2 fun x hx => ⟨fun hm => (hb x hx hm).elim, fun h => by cases h⟩
  rw [ea] at AL
  have CC := Lib.hid (fun W (hw : Chg (fun _ => False) w W) => class_calls (k.wb.fresh hw) (d : Int))
  have hd' : (d : Int) < (T.length : Int) := by omega
  rw [decide_eq_true ⟨by omega, hd'⟩] at CC
  obtain ⟨t, t1, t2, t3, t4⟩ := k.inv.ret hp (by rw [ho]; omega) (k.inv.no_page hc ho hb)
  have hf : first t.own = 0 := by rw [t2]; exact first_set0 _ hp
  have hfl : first t.own < t.own.length := by rw [hf, t2, List.length_set]; exact hp
  obtain ⟨u, u1, u2, u3, u4⟩ := t3.grant hd hfl
  rw [hf] at u1 u2
  have uo : u.own = s.own.set 0 (d : Int) := by rw [u2, t2, List.set_set]
  have KF := Lib.hid (fun W (hw : Chg (fun _ => False) w W) => (k.fresh hw).wb.c0)
  have RT : Hid (∀ W, Chg (fun _ => False) w W → Calls Try.prog 50 #[(.pointer (some ⟨a.g, 0, none⟩)), (.int .i64 0)] W fun e w' => e = .returned (.int .i64 0) ∧ SX B w0 w' a h T t L ∧ Chg (S7 a h) w w') := fun W hw => by
    have P := return_calls (k.fresh hw).wb.lies ((0 : Nat) : Int)
    rw [t1] at P
    refine P.mono fun e w' ⟨e1, h1, h2⟩ => ?_
    obtain ⟨a1, a2⟩ := (k.fresh hw).wb.arena h1 h2
    exact ⟨e1, (k.fresh hw).next a1 t3 a2, (hw.mono fun _ _ q => q.elim).trans a2⟩
  have GR : Hid (∀ W, SX B w0 W a h T t L → Calls Try.prog 52 #[(.pointer (some ⟨a.g, 0, none⟩)), (.int .i64 ((d : Int)))] W fun e w' => e = .returned (.tuple #[.int .i64 0, .int .i64 0]) ∧ SX B w0 w' a h T u L ∧ Chg (S7 a h) W w') := fun W kW => by
    have P := grant_calls kW.wb.lies (d : Int)
    rw [u1] at P
    refine P.mono fun e w' ⟨e1, h1, h2⟩ => ?_
    obtain ⟨a1, a2⟩ := kW.wb.arena h1 h2
    exact ⟨e1, kW.next a1 u3 a2, a2⟩
  have pl : 0 < u.own.length := by rw [uo, List.length_set]; exact hp
  have po : u.own.getD 0 0 = (d : Int) := by rw [uo, set_getI _ hp, if_pos rfl]
  have nn := k.inv.no_page hc ho hb
  have CU : Hid (∀ W, SX B w0 W a h T u L → Calls Try.prog 53 #[(.pointer (some ⟨h.b, 0, none⟩)), (.int .i64 0)] W (XEnd B w0 W a h T u L u.own (upN L d (chl T d 0 ++ L d)) (· ∈ chl T d 0) (.tuple #[]))) := fun W kW => kW.cut (p := 0) hd pl po fun x hx hm => nn d hd x hm (chl_page hx)
  have FR : Hid (∀ v M, Fr T u L v M (· ∈ chl T d 0) → Fr T s L v M (fun _ => True)) := fun v M _ => fun d hd y _ _ h => (h trivial).elim
  have UO := Lib.hid uo
  clear k hp ho hb hc hd hd' ea t1 t2 t3 t4 hf hfl u1 u2 u3 u4 uo pl po nn
  generalize chl T c 0 = l at *
  go_enter Try.func24, Try.ntmps24
  go_wp2_with fail
  unfold CkEnd at CK
  refine CK.out.mono ?_
  rintro e w2 ⟨A, q, rfl, o2, c2⟩
  have C2 := Lib.hid c2
  have A2 := Lib.hid (AL.out w2 C2.out A q o2.sl)
  have D2 := Lib.hid (CC.out w2 C2.out)
  clear o2 c2 CK AL CC
  go_wp2_with fail
  refine D2.out.mono ?_
  rintro e w3 ⟨rfl, rfl⟩
  clear D2
  go_wp2_with fail
  refine A2.out.mono ?_
  rintro e w4 ⟨rfl, c3⟩
  have C4 := Lib.hid (C2.out.trans c3)
  clear A2 c3 C2
  go_wp2_with fail
  go_loopg [33] 0 (fun m v wr => v = .int .i64 0 ∧ Hid (wr = w4))
  case atStart => exact ⟨rfl, rfl⟩
  case round =>
    obtain ⟨rfl, ew⟩ := hrel
    have c0 := KF.out w4 C4.out
    rw [← ew.out] at c0
    have R4 := Lib.hid (RT.out w4 C4.out)
    rw [← ew.out] at R4
    clear KF RT C4
    go_wp2_with fail
    refine R4.out.mono ?_
    rintro e w5 ⟨rfl, k5, g5⟩
    have c5 := k5.wb.c0
    have G5 := Lib.hid (GR.out w5 k5)
    replace g5 := Lib.hid g5
    clear c0 R4 GR k5
    go_wp2_with fail
    refine G5.out.mono ?_
    rintro e w6 ⟨rfl, k6, g6⟩
    have U6 := Lib.hid (CU.out w6 k6)
    replace g6 := Lib.hid (g5.out.trans g6)
    clear c5 G5 CU k6 g5
    go_wp2_with fail
    unfold XEnd at U6
    refine U6.out.mono ?_
    rintro e w7 ⟨rfl, v, h1, h2, h3, h4⟩
    have F := Lib.hid (show XEnd B w0 w a h T s L (s.own.set 0 (d : Int)) (upN L d (chl T d 0 ++ L d)) (fun _ => True) (.int .i64 0) (.returned (.int .i64 0)) w7 from ⟨rfl, v, h1, h2.trans UO.out, FR.out _ _ h3, g6.out.trans h4⟩)
    clear U6 h1 h2 h3 h4
    go_wp2_with fail
    go_ret
    exact F.out
end Go.Proofs.Ytmffdlebahdihaa.Slab

/- The program's chunks: Counts. -/
namespace Go.Proofs.Ytmffdlebahdihaa.Slab
open Go Go.RowKit Go.Shelf Go.Proofs.Ytmffdlebahdihaa.Mem Go.Proofs.Ytmffdlebahdihaa.CodecPure Go.Proofs.Ytmffdlebahdihaa.ArenaPure Go.Proofs.Ytmffdlebahdihaa.Codec Go.Proofs.Ytmffdlebahdihaa.Arena Go.Proofs.Ytmffdlebahdihaa.Item
set_option linter.unusedVariables false
set_option maxRecDepth 100000
attribute [local go_sem] Oper.semAt_some
variable {B : Nat} {w0 w w' : World} {a : Ar} {h : Sh} {s s' : St} {T : List Nat} {L : Nat → List Nat} {H : List Int} {c d x p : Nat} {f : Nat → Bool}
/-- how many pages a class has -/
def pgs (own : List Int) (c : Nat) : Nat := own.countP fun x => x == (c : Int)
theorem pgs_take (own : List Int) (c j : Nat) (hj : j < own.length) : pgs (own.take (j + 1)) c = pgs (own.take j) c + if own.getD j 0 = (c : Int) then 1 else 0 := by
  unfold pgs
  rw [List.take_succ_eq_append_getElem hj, List.countP_append, List.countP_singleton, List.getD_eq_getElem?_getD, List.getElem?_eq_getElem hj]
  congr 1
  show (if (own[j] == (c : Int)) = true then 1 else 0) = if own[j] = (c : Int) then 1 else 0
  by_cases e : own[j] = (c : Int)
  · rw [if_pos (by rw [e]; exact beq_self_eq_true _), if_pos e]
  · rw [if_neg (by rw [beq_iff_eq]; exact e), if_neg e]
theorem pgs_le (own : List Int) (c : Nat) : pgs own c ≤ own.length := List.countP_le_length
def CnEnd (w : World) (x y z : Int) (e : Ending) (w' : World) : Prop := e = .returned (.tuple #[.int .i64 x, .int .i64 y, .int .i64 z]) ∧ Chg (fun _ => False) w w'
theorem results_cnt {P : Program} {fn : Func} {p1 p2 p3 : Tmp} {t1 : TypeId} (h : fn.results = #[.cell p1 t1, .tmp p2, .tmp p3]) {tmps : Array Value} {w : World} {g1 : Nat} {v1 v2 v3 : Value}
    (h1 : tmps[p1]?.getD undef = .pointer (some ⟨g1, 0, none⟩)) (l1 : (loadVar t1 ⟨g1, 0, none⟩).run P w = .ok v1 w) (h2 : tmps[p2]?.getD undef = v2) (h3 : tmps[p3]?.getD undef = v3) : (results fn tmps).run P w = .ok (.tuple #[v1, v2, v3]) w := by
  simp [results, h, h1, asAddr, l1, h2, h3]
set_option maxHeartbeats 2000000 in
theorem counts_calls (k : WB w a h s T (hds T L)) (i : SLI s T L) (hc : c < T.length) : Calls Try.prog 17 #[(.pointer (some ⟨h.b, 0, none⟩)), (.int .i64 ((c : Int)))] w
    (CnEnd w ((L c).length : Int) (((pgs s.own c * (1024 / tz T c) : Nat) : Int) - ((L c).length : Int)) ((pgs s.own c : Nat) : Int)) := by
  have KH := Lib.hid k
  have IH := Lib.hid i
  have HC := Lib.hid hc
  have CC := class_calls (k.fresh (Chg.alloc (fun _ => False) w (.cells #[.int .i64 0] 3))) (c : Int)
  have hc' : (c : Int) < (T.length : Int) := by omega
  rw [decide_eq_true ⟨by omega, hc'⟩] at CC
  replace CC := Lib.hid CC
  have C1 : Hid (Chg (fun _ => False) w (w.alloc (.cells #[.int .i64 0] 3))) := Chg.alloc _ _ _
  have B1 : Hid (Boxed (w.alloc (.cells #[.int .i64 0] 3)) w.heap.size 3 (.int .i64 0)) := Boxed.new w _ _
  have Z1 : Hid ((w.alloc (.cells #[.int .i64 0] 3)).heap.size = w.heap.size + 1) := World.size_alloc _ _
  have KF : Hid (∀ W, Chg (fun _ => False) w W → W.cell? ⟨h.b, 0, none⟩ = some (.pointer (some ⟨a.g, 0, none⟩)) ∧ W.cell? ⟨h.b, 1, none⟩ = some (.slice (some ⟨h.t, 0, none⟩) T.length h.tc) ∧ W.cell? ⟨h.t, c, none⟩ = some (.int .i64 (tz T c : Int))) := fun W hW => ⟨(k.fresh hW).c0, (k.fresh hW).c1, (k.fresh hW).ct hc⟩
  have PC := Lib.hid (fun W (hw : Chg (fun _ => False) w W) => pages_calls (k.fresh hw).lies)
  have OC := Lib.hid (fun W (hw : Chg (fun _ => False) w W) (n : Nat) (hn : n < s.own.length) => owner_calls (k.fresh hw).lies (n : Int))
  have EO : Hid (∀ n : Nat, n < s.own.length → owner s (n : Int) = (s.own.getD n 0, 0)) := fun n hn => by unfold owner; rw [if_neg (by omega), Int.toNat_natCast]
  have PT := Lib.hid (pgs_take s.own c)
  have ts := i.ts c hc
  have PP := Lib.hid (fun W => perpage_calls (tz T c) (by omega) ts.2 W)
  have N32 := i.ok.high
  have n1 := k.n1
  have LE := Lib.hid (i.len hc)
  have e0 := B1.out.frozen
  have e00 := B1.out.cell
  have PL : Hid (∀ n : Nat, s.own.length = n → s.own.take n = s.own) := fun n hn => List.take_of_length_le (by omega)
  obtain ⟨n, hn⟩ : ∃ n, s.own.length = n := ⟨_, rfl⟩
  have c0 := KF.out _ C1.out
  replace N32 : n ≤ 32 := by rw [← hn]; exact N32
  have PC1 := Lib.hid (PC.out _ C1.out)
  rw [hn] at PC1
  replace hn := Lib.hid hn
  clear k i hc PC
  refine (callsIn_wide (n := 3)).1 ?_
  refine callsIn_of_wp_marks Try.func17 rfl trivial ?_ rfl
  simp only [Try.ntmps17, List.size_toArray, List.length_cons, List.length_nil, Nat.reduceAdd, Nat.reduceSub, Array.replicate_succ, Array.replicate_zero, List.push_toArray, List.append_toArray, List.nil_append, List.cons_append]
  refine wpIn_wide.2 ?_
  obtain ⟨w1, hw1⟩ : ∃ w1, w.alloc (.cells #[.int .i64 0] 3) = w1 := ⟨_, rfl⟩
  rw [hw1] at C1 B1 Z1 CC c0 PC1 e0 e00
  replace hw1 := Lib.hid hw1
  obtain ⟨c0, -, -⟩ := c0
  go_wp2_with fail
  rw [hw1.out]
  refine CC.out.mono ?_
  rintro e w2 ⟨rfl, rfl⟩
  clear CC
  generalize hb0 : w.heap.size = b0 at e0 e00 B1 Z1 ⊢
  replace hb0 := Lib.hid hb0
  go_wp2_with fail
  refine PC1.out.mono ?_
  rintro e w3 ⟨rfl, rfl⟩
  clear PC1
  go_wp2_with fail
  go_loopg [19, 6] n (fun m v p wr => ∃ j : Nat, v = .int .i64 j ∧ p = .int .i64 ((pgs (s.own.take j) c : Nat) : Int) ∧ m = n - j ∧ j ≤ n ∧ Hid (wr = w2))
  case atStart => exact ⟨0, rfl, rfl, by omega, by omega, rfl⟩
  case round =>
    obtain ⟨j, rfl, rfl, hg, hj, EW⟩ := hrel
    replace hg := Lib.hid hg
    have pj : pgs (s.own.take j) c ≤ 32 := by
      have := pgs_le (s.own.take j) c
      rw [List.length_take] at this
      omega
    by_cases h1 : j < n
    · have h1' : (j : Int) < (n : Int) := by omega
      have jl : j < s.own.length := by rw [hn.out]; exact h1
      have O1 := OC.out w2 C1.out j jl
      rw [EO.out j jl, ← EW.out] at O1
      have PT1 := PT.out j jl
      rw [← EW.out] at c0
      replace O1 := Lib.hid O1
      by_cases e : s.own.getD j 0 = (c : Int)
      · rw [if_pos e] at PT1
        replace PT1 := Lib.hid PT1
        rw [e] at O1
        clear e
        generalize pgs (s.own.take j) c = pp at pj PT1 ⊢
        go_wp2_with fail
        refine O1.out.mono ?_
        rintro e w4 ⟨rfl, rfl⟩
        clear O1
        go_wp2_with fail
        go_roundg (n - (j + 1))
        case measure => have := hg.out; omega
        case rel => exact ⟨j + 1, rfl, by rw [PT1.out]; rfl, rfl, by omega, EW.out⟩
      · rw [if_neg e, Nat.add_zero] at PT1
        replace PT1 := Lib.hid PT1
        have e1 : ((s.own.getD j 0) == (c : Int)) = false := by rw [beq_eq_false_iff_ne]; exact e
        generalize s.own.getD j 0 = ov at O1 e e1
        go_wp2_with fail
        refine O1.out.mono ?_
        rintro e w4 ⟨rfl, rfl⟩
        clear O1
        go_wp2_with fail
        go_roundg (n - (j + 1))
        case measure => have := hg.out; omega
        case rel => exact ⟨j + 1, rfl, congrArg (fun (z : Nat) => Value.int .i64 ((z : Nat) : Int)) PT1.out.symm, rfl, by omega, EW.out⟩
    · have h1' : ¬ (j : Int) < (n : Int) := by omega
      obtain rfl : j = n := by omega
      rw [PL.out j hn.out] at pj ⊢
      have ew := EW.out
      clear OC EO PT PL EW hg
      subst ew
      generalize hpg : pgs s.own c = pg at pj ⊢
      have LC := Lib.hid (list_calls h.b (c : Int) wr)
      go_wp2_with fail
      refine LC.out.mono ?_
      rintro e w4 ⟨rfl, e4⟩
      have X1 := ((Boxed.new wr 33 (.pointer (some ⟨h.b, 0, none⟩))).alloc (.cells #[(.int .i64 ((c : Int)))] 3)).cell
      have X2 := (Boxed.new (wr.alloc (.cells #[(.pointer (some ⟨h.b, 0, none⟩))] 33)) 3 (.int .i64 ((c : Int)))).cell
      have C4 : Hid (Chg (fun _ => False) wr ((wr.alloc (.cells #[(.pointer (some ⟨h.b, 0, none⟩))] 33)).alloc (.cells #[(.int .i64 ((c : Int)))] 3))) := (Chg.alloc _ _ _).trans (Chg.alloc _ _ _)
      have Z4 : Hid (((wr.alloc (.cells #[(.pointer (some ⟨h.b, 0, none⟩))] 33)).alloc (.cells #[(.int .i64 ((c : Int)))] 3)).heap.size = wr.heap.size + 1 + 1) := by show _ = _; simp only [World.size_alloc]
      rw [World.size_alloc] at X2
      rw [← e4] at X1 X2 C4 Z4
      have B4 : Hid (Boxed w4 b0 3 (.int .i64 0)) := C4.out.keep B1.out id
      have CW4 := Lib.hid (C1.out.trans C4.out)
      have hst := list_stops 2 (by decide) HC.out wr.heap.size (wr.heap.size + 1) w.heap.size w4 (fun W x C A hw hx => callsIn_wide.2 (KH.out.gets IH.out HC.out W x C A hw hx)) (Nat.le_refl _) (by rw [Z4.out]; omega) (by rw [Z4.out]; omega) CW4.out.size X1 X2 KH.out (IH.out.nd c HC.out) CW4.out
      generalize hb : wr.heap.size = bb at hst Z4 ⊢
      clear LC e4 X1 X2 e0 e00 C4
      have bW : Hid (w.heap.size + 1 = bb) := by show _ = _; rw [← hb, Z1.out, hb0.out]
      clear hb
      go_wp2_with fail
      refine (wpIn_wide (n := 3)).1 ?_
      refine wpIn_rangeFunc_ownG rfl (by decide) (gf := 88) (lb := #[(.pointer (some ⟨bb, 0, none⟩)), (.pointer (some ⟨bb + 1, 0, none⟩))]) rfl trivial (enters_of Try.func88 (by kernel_rfl) rfl) hst
        (fun h k => h.trans k) (fun W l o o' hl h1 h2 h3 => ⟨belowK_b (w := w4) CW4.out.size W l o o' hl h1 h2 h3, World.putObj_heap_other (by rw [Z4.out] at hl; omega), World.putObj_heap_other (by rw [Z4.out] at hl; omega)⟩) (Below.refl _ _) (fun _ => rfl)
        (fun (pre : List Nat) W => Boxed W b0 3 (.int .i64 (pre.length : Int)) ∧ (Below w.heap.size w W ∧ w4.heap.size ≤ W.heap.size))
        (fun _ _ _ => False)
        (fun s A B row hs hg hr => ⟨box_from hs.1 hg (by rw [Z4.out]; have := bW.out; have := hb0.out; omega) hr, ⟨ownFrom_below (β := List Nat) (Nat.le_refl _) CW4.out.size s A B row hs.2.1 hg hr, Nat.le_trans hs.2.2 hg.size⟩⟩)
        (fun _ _ _ _ _ hs _ _ => hs)
        ⟨B4.out, CW4.out.below (Nat.le_refl _) fun _ h => h.elim, Nat.le_refl _⟩
        (fun (y : Nat) => { tmps := #[(.pointer (some ⟨h.b, 0, none⟩)), (.int .i64 ((c : Int))), undef, undef, (.pointer (some ⟨b0, 0, none⟩)), .int .i64 0, (.int .i64 ((pg : Int))), u7, u8, u9, (.pointer (some ⟨h.b, 0, none⟩)), (.int .i64 ((c : Int))), .bool true, .bool false, (.pointer (some ⟨h.b, 0, none⟩)), (.pointer (some ⟨h.b, 0, none⟩)), (.pointer (some ⟨h.b, 0, none⟩)), (.pointer (some ⟨a.g, 0, none⟩)), (.int .i64 ((j : Int))), (.int .i64 ((j : Int))), .bool false, u21, u22, u23, u24, u25, u26, u27, u28, u29, u30, u31, u32, u33, u34, u35, u36, (.pointer (some ⟨h.b, 0, none⟩)), (.int .i64 ((c : Int))), .func (.func 88) #[] #[(.pointer (some ⟨bb, 0, none⟩)), (.pointer (some ⟨bb + 1, 0, none⟩))], (.int .i64 ((y : Int))), undef, undef, undef, undef, undef, undef, undef, undef, undef, undef, undef, undef, undef, undef, undef, undef], defers := [] }) ?assign ?body ?done ?stop
      case assign =>
        intro l y W K hK
        unfold ev
        gi_wp2
        exact hK
      case body =>
        rintro l pre y W ⟨hF, hB, hZ⟩ hlt
        have e1 := hF.cell
        have z1 := hF.frozen
        have KF2 := Lib.hid hF
        have KB := Lib.hid hB
        have pl : pre.length < 32768 := by have := LE.out; omega
        replace hZ := Lib.hid hZ
        have KP := Lib.hid (keeps_of_chg w4.heap.size (Chg.refl (fun _ => False) W))
        clear hF hB hst
        generalize hpn : pre.length = pn at *
        gi_wp2_with fail
        have G1 := bW.out
        have ws := hb0.out
        have z4 := Z4.out
        have nb : ∀ b, b ≠ b0 → (W.setCell ⟨b0, 0, none⟩ (.int .i64 ((pn : Int) + 1))).heap[b]? = W.heap[b]? := fun b hb => Below.heap_setCell W ⟨b0, 0, none⟩ _ b hb
        refine ⟨keeps_set KP.out (by omega), ⟨(Below.refl w.heap.size W).setCell (p := ⟨b0, 0, none⟩) (by show w.heap.size ≤ b0; omega) _, nb _ (by omega), nb _ (by omega)⟩, ?_, KB.out.setCell (p := ⟨b0, 0, none⟩) (by show w.heap.size ≤ b0; omega) _, by simp [World.setCell]; exact hZ.out⟩
        have := KF2.out.set (.int .i64 ((pn : Int) + 1))
        rw [List.length_append, hpn]
        exact this
      case done =>
        rintro D ys W hD rfl ⟨hF, hB, hZ⟩ hK
        have e1 := hF.cell
        have z1 := hF.frozen
        have hc2 : Hid (Chg (fun _ => False) w W) := Chg.of_below hB
        obtain ⟨k0, k1, k2⟩ := KF.out W hc2.out
        have HB := Lib.hid hB
        have HK := Lib.hid hK
        have HF := Lib.hid hF
        have le := LE.out
        have DC := PP.out
        clear hF hB hZ hK hst KF
        obtain ⟨z, hz⟩ : ∃ z, tz T c = z := ⟨_, rfl⟩
        rw [hz] at k2 ts PP ⊢
        generalize hln : (L c).length = ln at *
        have l1 : pg * (1024 / z) ≤ 32 * 1024 := Nat.mul_le_mul pj (Nat.div_le_self _ _)
        obtain ⟨q, hq⟩ : ∃ q : Nat, 1024 / z = q := ⟨_, rfl⟩
        rw [hq] at l1 PP ⊢
        obtain ⟨m, hm⟩ : ∃ m : Nat, pg * q = m := ⟨_, rfl⟩
        have hm2 : (pg : Int) * (q : Int) = (m : Int) := by rw [← hm]; exact (Int.natCast_mul pg q).symm
        rw [hm] at l1
        rw [hpg, hm]
        have ME : Hid (pg * (1024 / tz T c) = m) := by show _ = _; rw [hz, hq, hm]
        have z2 : ∀ n, (W.drewN n).frozen? ⟨b0, 0, none⟩ = false := fun n => z1
        generalize hN : T.length = N at *
        clear hm hq hz hN DC
        have nb1 : h.b ≠ b0 := fun e => by have := wb_lt KH.out h.b (.inr (.inr (.inr (.inl rfl)))); have := hb0.out; omega
        have nb2 : h.t ≠ b0 := fun e => by have := wb_lt KH.out h.t (.inr (.inr (.inr (.inr (.inl rfl))))); have := hb0.out; omega
        have nb3 : b0 ≠ h.b := Ne.symm nb1
        have nb4 : b0 ≠ h.t := Ne.symm nb2
        have hs0 : ((W.setCell ⟨b0, 0, none⟩ (.int .i64 (ln : Int))).drew).cell? ⟨b0, 0, none⟩ = some (.int .i64 (ln : Int)) := (HF.out.set (.int .i64 (ln : Int))).cell
        gi_wp2
        go_wp2_with fail
        go_region_held3 (fun w' => w'.cell? ⟨b0, 0, none⟩ = some (.int .i64 ((ln : Int))) ∧ w'.cell? ⟨h.b, 1, none⟩ = some (.slice (some ⟨h.t, 0, none⟩) N h.tc) ∧ w'.cell? ⟨h.t, c, none⟩ = some (.int .i64 (z : Int))) (go_keep)
          (first
            | (go_at_call 57; refine (PP.out _).mono ?_; rintro e w9 ⟨rfl, rfl⟩; skip))
        have wq : IntKind.i64.wrap (IntKind.i64.wrap (m : Int) - (ln : Int)) = (m : Int) - (ln : Int) := by
          rw [IntWalk.i64_in (m : Int) (by omega), IntWalk.i64_in _ (by omega)]
        rw [wq]
        have b4 : Boxed ((W.setCell ⟨b0, 0, none⟩ (.int .i64 (ln : Int))).drew) b0 3 (.int .i64 (ln : Int)) := HF.out.set (.int .i64 (ln : Int))
        have BB : Below w.heap.size w ((W.setCell ⟨b0, 0, none⟩ (.int .i64 (ln : Int))).drew) := (HB.out.setCell (p := ⟨b0, 0, none⟩) (by show w.heap.size ≤ b0; have := hb0.out; omega) _).drew
        have z4 := Z4.out
        have zb := bW.out
        have zh := hb0.out
        have HD : ((W.setCell ⟨b0, 0, none⟩ (.int .i64 (ln : Int))).drew).heap[D]? = some (.deferred (some [])) := by
          show (W.setCell ⟨b0, 0, none⟩ (.int .i64 (ln : Int))).heap[D]? = _
          rw [Below.heap_setCell _ ⟨b0, 0, none⟩ _ D (by show D ≠ b0; omega)]
          exact HK.out
        generalize (W.setCell ⟨b0, 0, none⟩ (.int .i64 (ln : Int))).drew = W9 at b4 BB HD ⊢
        clear hs0 e1 z1 k0 k1 k2 z2 wq
        go_wp2_with fail
        refine ⟨by simp, .inl ⟨_, _, rfl, run_takeDeferred HD, ?_⟩⟩
        have c4 : Boxed (W9.putObj D (.deferred none)) b0 3 (.int .i64 (ln : Int)) := (World.putObj_heap_other (by omega)).trans b4
        refine ⟨.tuple #[.int .i64 (ln : Int), .int .i64 ((m : Int) - (ln : Int)), .int .i64 (pg : Int)], results_cnt (g1 := b0) rfl rfl ?_ rfl rfl, ?_, Chg.of_below (BB.trans (belowK_b (w := w) (Nat.le_refl _) W9 D _ _ (by omega) HD rfl rfl))⟩
        · have := c4.cell
          simp [loadVar, go_sem, this]
        · rw [hpg, ME.out]
      case stop =>
        rintro D c' pre W _ _ h _
        exact h.elim
end Go.Proofs.Ytmffdlebahdihaa.Slab

/- The program's chunks: New. -/
namespace Go.Proofs.Ytmffdlebahdihaa.Slab
open Go Go.RowKit Go.Shelf Go.Proofs.Ytmffdlebahdihaa.Mem Go.Proofs.Ytmffdlebahdihaa.CodecPure Go.Proofs.Ytmffdlebahdihaa.ArenaPure Go.Proofs.Ytmffdlebahdihaa.Codec Go.Proofs.Ytmffdlebahdihaa.Arena Go.Proofs.Ytmffdlebahdihaa.Item
set_option linter.unusedVariables false
set_option maxRecDepth 100000
variable {B : Nat} {w0 w w' : World} {a : Ar} {h : Sh} {s s' : St} {T : List Nat} {L : Nat → List Nat} {H : List Int} {c d x p : Nat} {f : Nat → Bool}
/-- a table of sizes -/
structure TOK (T : List Nat) : Prop where
  n1 : 1 ≤ T.length
  n8 : T.length ≤ 8
  lo : ∀ c, c < T.length → 4 ≤ tz T c ∧ tz T c ≤ 1024
  up : ∀ c, c + 1 < T.length → tz T c < tz T (c + 1)
theorem clone_calls (A : Option Addr) (q : Nat) (l : List Int) (hs : Sl w .i64 A l) (hl : 1 ≤ l.length) (h8 : l.length ≤ 1000) (hn : A = none → q = 0) :
    Calls Try.prog 81 #[.slice A l.length q] w fun e w' => ∃ A' q', e = .returned (.slice A' l.length q') ∧ Mem.Own w' w.heap.size 3 .i64 (.slice A' l.length q') l ∧ Chg (fun _ => False) w w' := by
  obtain ⟨ad, rfl, -⟩ := hs 0 (by omega)
  have C1 : Hid (Chg (fun _ => False) w (w.alloc (.cells #[] 3))) := Chg.alloc _ _ _
  have O1 : Hid (Mem.Own (w.alloc (.cells #[] 3)) w.heap.size 3 .i64 (.slice (some ⟨w.heap.size, 0, none⟩) 0 0) []) := Own.lit w 3 .i64 [] (by unfold maxLen; decide)
  have HS := Lib.hid hs
  clear hn
  obtain ⟨n, hn⟩ : ∃ n, l.length = n := ⟨_, rfl⟩
  rw [hn] at hl h8 ⊢
  have HN := Lib.hid hn
  replace hl := Lib.hid hl
  replace h8 := Lib.hid h8
  clear hs hn
  go_enter Try.func81, Try.ntmps81
  go_wp2_with fail
  rw [Lib.run_eql_slice_nil (P := Try.prog) w 25 3 (some ad) n q 0 0 Try.underlying25, show (some ad : Option Addr).isNone = false from rfl]
  go_wp2_with (at_builtin; refine wpList_app rfl _ _ 25 rfl w.heap.size 3 .i64 8 Try.underlying25 infoInt _ [] rfl O1.out (some ad) n q l rfl HN.out (HS.out.chg C1.out fun _ _ => id) (fun e => by cases e) ?h63 ?hby ?hba ?_; (case h63 => have := h8.out; unfold maxLen; rw [List.length_nil]; omega); (case hby => have := h8.out; rw [List.length_nil]; omega); (case hba => rw [World.size_alloc]; omega); intro A' c' n' w6 hn' hown hchg; obtain rfl : n' = n := (by rw [List.length_nil] at hn'; omega); rw [List.nil_append] at hown; have O6 := Lib.hid hown; have C6 : Hid (Chg (fun b => w.heap.size ≤ b) w w6) := ((C1.out.mono fun _ _ h => h.elim).trans hchg); clear hn' hown hchg)
  go_ret
  exact ⟨A', c', rfl, O6.out, by have k := C6.out; exact ⟨k.os, k.tape, k.output, k.size, fun b hb _ => k.block b hb (by omega)⟩⟩
def nos : Nat → List Nat := fun _ => []
theorem hds_nos (T : List Nat) : hds T nos = List.replicate T.length (-1) := by
  show (List.range T.length).map (fun _ => (-1 : Int)) = _
  rw [List.map_const', List.length_range]
/-- j heads have been begun -/
structure NB (w wr : World) (a : Ar) (s : St) (T : List Nat) (b tb tc j : Nat) (v : Value) : Prop where
  head : wr.heap[b]? = some (.cells #[(.pointer (some ⟨a.g, 0, none⟩)), .slice (some ⟨tb, 0, none⟩) T.length tc, v] 84 (0, 0))
  tab : Mem.Own wr w.heap.size 3 .i64 (.slice (some ⟨tb, 0, none⟩) T.length tc) (Ti T)
  hd : Mem.Own wr (b + 1) 3 .i64 v (List.replicate j (-1))
  lies : Lies wr a s
  tlt : tb < b
  b0 : w.heap.size ≤ b
  chg : Chg (fun x => w.heap.size ≤ x) w wr
  aw : a.g < w.heap.size ∧ a.ps < w.heap.size ∧ ∀ b ∈ a.pb, b < w.heap.size
theorem NB.wb {wr : World} {b tb tc : Nat} {v : Value} (n : NB w wr a s T b tb tc T.length v) (t1 : 1 ≤ T.length) (t8 : T.length ≤ 8) : ∃ h : Sh, h.b = b ∧ WB wr a h s T (hds T nos) ∧ ∀ x, S7 a h x → x ∈ a.pb ∨ w.heap.size ≤ x := by
  have hd := n.hd
  obtain ⟨A, q, rfl⟩ := hd.form
  obtain ⟨g, cs, rfl, hg, -⟩ := hd.blk (by rw [List.length_replicate]; omega)
  rw [List.length_replicate] at hd
  have hh := n.head
  rw [List.length_replicate] at hh
  have b0 := n.b0
  have aw := n.aw
  have tlt := n.tlt
  have t0 := (World.ownsRow.lt n.tab tb rfl).1
  have off : ∀ x, w.heap.size ≤ x → x ≠ a.g ∧ x ≠ a.ps ∧ x ∉ a.pb := fun x hx => ⟨by omega, by omega, fun hm => by have := aw.2.2 x hm; omega⟩
  refine ⟨⟨b, tb, tc, g, q⟩, rfl, ⟨n.lies, t8, hh, n.tab.mono (Nat.zero_le _), by rw [hds_nos]; exact hd.mono (Nat.zero_le _), by rw [hds_len], fun x hx => off x ?_, ⟨by show b ≠ tb; omega, by show b ≠ g; omega, by show tb ≠ g; omega⟩⟩, fun x hx => ?_⟩
  · rcases hx with e | e | e
    · rw [e]; exact b0
    · rw [e]; exact t0
    · rw [e]; show w.heap.size ≤ g; omega
  · rcases hx with e | e
    · exact .inl e
    · rw [e]; exact .inr (by show w.heap.size ≤ g; omega)
set_option maxHeartbeats 2000000 in
theorem new_ok (hl : Lies w a s) (aw : a.g < w.heap.size ∧ a.ps < w.heap.size ∧ ∀ b ∈ a.pb, b < w.heap.size) (hT : TOK T) (hf : free s = s.own.length) (tb q : Nat) (ht : Sl w .i64 (some ⟨tb, 0, none⟩) (Ti T)) :
    Calls Try.prog 43 #[(.pointer (some ⟨a.g, 0, none⟩)), .slice (some ⟨tb, 0, none⟩) T.length q] w fun e w' => ∃ h : Sh, e = .returned (.tuple #[(.pointer (some ⟨h.b, 0, none⟩)), .int .i64 0]) ∧ WB w' a h s T (hds T nos) ∧ Chg (fun x => w.heap.size ≤ x) w w' ∧ w.heap.size ≤ h.b ∧ ∀ x, S7 a h x → x ∈ a.pb ∨ w.heap.size ≤ x := by
  have CL := Lib.hid (clone_calls (w := w) (some ⟨tb, 0, none⟩) q (Ti T) ht (by rw [ti_len]; exact hT.n1) (by rw [ti_len]; have := hT.n8; omega) (fun e => by cases e))
  rw [ti_len] at CL
  have t1 := hT.n1
  have t8 := hT.n8
  have cell : ∀ i, i < T.length → w.cell? ⟨tb, i, none⟩ = some (.int .i64 (tz T i : Int)) := fun i hi => by
    obtain ⟨ad, e, hc⟩ := ht i (by rw [ti_len]; exact hi)
    cases e
    rw [add_plain, Nat.zero_add, ti_at] at hc
    exact hc
  have CW : Hid (∀ W i, Chg (fun x => w.heap.size ≤ x) w W → i < T.length → W.cell? ⟨tb, i, none⟩ = some (.int .i64 (tz T i : Int))) := fun W i hW hi => hW.cell (cell i hi) (by show ¬ w.heap.size ≤ tb; have := World.block_lt_of_cell? w _ (cell i hi); have e : (⟨tb, i, none⟩ : Addr).block = tb := rfl; omega)
  have k0 := cell 0 (by omega)
  have k1 := cell (T.length - 1) (by omega)
  have z0 : ¬ ((tz T 0 : Nat) : Int) < 4 := by have := (hT.lo 0 (by omega)).1; omega
  have z1 : ¬ ((tz T (T.length - 1) : Nat) : Int) > 1024 := by have := (hT.lo (T.length - 1) (by omega)).2; omega
  have n0 : ¬ (T.length : Int) < 1 := by omega
  have n9 : ¬ (T.length : Int) > 8 := by omega
  have nn : (T.length : Int) - 1 = ((T.length - 1 : Nat) : Int) := by omega
  have UP := Lib.hid hT.up
  have LF := Lib.hid hf
  have HL := Lib.hid hl
  have AW := Lib.hid aw
  clear hl aw hT hf ht cell
  generalize tz T 0 = y0 at k0 z0
  obtain ⟨m, hm⟩ : ∃ m, T.length - 1 = m := ⟨_, rfl⟩
  rw [hm] at k1 z1 nn
  generalize tz T m = y1 at k1 z1
  have hm2 : m < T.length := by omega
  obtain ⟨n, hn⟩ : ∃ n, T.length = n := ⟨_, rfl⟩
  rw [hn] at CL t1 t8 n0 n9 nn hm2 ⊢
  replace hn := Lib.hid hn
  clear hm
  go_enter Try.func43, Try.ntmps43
  go_wp2_with fail
  refine CL.out.mono ?_
  rintro e w1 ⟨A1, tc, rfl, o1, c1⟩
  obtain ⟨g1, cs, rfl, hg1, -⟩ := o1.blk (by rw [ti_len, hn.out]; omega)
  have C1 : Hid (Chg (fun x => w.heap.size ≤ x) w (w1.alloc (.cells #[(.pointer (some ⟨a.g, 0, none⟩)), .slice (some ⟨g1, 0, none⟩) n tc, .slice none 0 0] 84))) := (c1.mono fun _ _ h => h.elim).trans (Chg.alloc _ _ _)
  have g1l : g1 < w1.heap.size := (World.ownsRow.lt o1 g1 rfl).2
  have N0 : Hid (NB w (w1.alloc (.cells #[(.pointer (some ⟨a.g, 0, none⟩)), .slice (some ⟨g1, 0, none⟩) n tc, .slice none 0 0] 84)) a s T w1.heap.size g1 tc 0 (.slice none 0 0)) :=
    ⟨by rw [hn.out]; exact heap_alloc_at _ _, by rw [hn.out]; exact o1.chg (Chg.alloc (fun _ => False) _ _) fun _ _ => id, Own.nil _ _ _ _, (HL.out.chg c1 id id fun _ _ => id).chg (Chg.alloc (fun _ => False) _ _) id id fun _ _ => id, g1l, c1.size, C1.out, AW.out⟩
  clear CL o1 c1 k0 k1 z0 z1 g1l hg1 nn
  go_wp2_with fail
  generalize w1.alloc (.cells #[(.pointer (some ⟨a.g, 0, none⟩)), .slice (some ⟨g1, 0, none⟩) n tc, .slice none 0 0] 84) = w2 at C1 N0 ⊢
  generalize w1.heap.size = b at N0 ⊢
  go_loopg [39] n (fun m v wr => ∃ (j : Nat) (hv : Value), v = .int .i64 j ∧ m = n - j ∧ j ≤ n ∧ Hid (NB w wr a s T b g1 tc j hv))
  case atStart => exact ⟨0, _, rfl, rfl, by omega, N0.out⟩
  case round =>
    clear N0 C1
    obtain ⟨j, hv, rfl, hg, hj, N⟩ := hrel
    replace hg := Lib.hid hg
    by_cases h1 : j < n
    · have h1' : (j : Int) < (n : Int) := by omega
      have kj := CW.out wr j N.out.chg (by rw [hn.out]; exact h1)
      have c2 : wr.cell? ⟨b, 2, none⟩ = some hv := by rw [blk_cell N.out.head]; rfl
      have z2 := blk_frozen N.out.head 2
      have NO := Lib.hid N.out.hd
      have bz := blk_lt N.out.head
      obtain ⟨A, q9, rfl⟩ := N.out.hd.form
      rw [List.length_replicate] at c2
      have hw : w.heap.size ≤ wr.heap.size := N.out.chg.size
      rw [List.length_replicate] at NO
      have NX : Hid (∀ A' c' w6, Mem.Own w6 (b + 1) 3 .i64 (.slice A' (j + 1) c') (List.replicate j (-1) ++ [-1]) → Chg (fun x => b + 1 ≤ x) wr w6 → w6.frozen? ⟨b, 2, none⟩ = false ∧ w6.cell? ⟨b, 2, none⟩ = some (.slice A j q9) ∧ NB w (w6.setCell ⟨b, 2, none⟩ (.slice A' (j + 1) c')) a s T b g1 tc (j + 1) (.slice A' (j + 1) c')) := fun A' c' w6 ho hc => by
        have aw := AW.out
        have hb6 := hc.keep N.out.head (by omega)
        have hs : Chg (fun x => x = b) w6 (w6.setCell ⟨b, 2, none⟩ (.slice A' (j + 1) c')) := Chg.setCell _ _ _ rfl
        refine ⟨blk_frozen hb6 2, by rw [blk_cell hb6]; rw [List.length_replicate]; rfl, ⟨?_, ?_, ?_, ?_, N.out.tlt, N.out.b0, ?_, aw⟩⟩
        · rw [setCell_row hb6, setRow_heap w6 _ _ _ _ (0, 0) hb6]; rfl
        · refine (N.out.tab.chg hc fun g e => ?_).chg hs fun g e => ?_
          all_goals (simp [Value.ownBlock] at e; subst e; have := N.out.tlt; show ¬ _; omega)
        · rw [← List.replicate_succ'] at ho
          refine ho.chg hs fun g e => ?_
          have := (World.ownsRow.lt ho g e).1
          show ¬ g = b; omega
        · have b0 := N.out.b0
          exact (N.out.lies.chg hc (by show ¬ b + 1 ≤ a.g; omega) (by show ¬ b + 1 ≤ a.ps; omega) fun x hx => by have := aw.2.2 x hx; show ¬ b + 1 ≤ x; omega).chg hs (by show ¬ a.g = b; omega) (by show ¬ a.ps = b; omega) fun x hx => by have := aw.2.2 x hx; show ¬ x = b; omega
        · have b0 := N.out.b0
          exact (N.out.chg.trans (hc.mono fun x _ h => show w.heap.size ≤ x by omega)).trans (hs.mono fun x _ h => show w.heap.size ≤ x by omega)
      by_cases j0 : j = 0
      · subst j0
        go_wp2_with (at_builtin; refine wpList_app rfl _ _ 25 rfl (b + 1) 3 .i64 8 Try.underlying25 infoInt _ (List.replicate 0 (-1)) rfl (NO.out.chg (Chg.alloc (fun _ => False) wr (.cells #[.int .i64 (-1)] 3)) (fun _ _ => id)) (some ⟨wr.heap.size, 0, none⟩) 1 1 [-1] rfl rfl (sl_lit wr .i64 [-1] 3 (0, 0)) (fun e => by cases e) ?h63 ?hby ?hba ?_; (case h63 => rw [List.length_replicate]; unfold maxLen; omega); (case hby => rw [List.length_replicate]; omega); (case hba => simp; omega); intro A' c' n' w6 hn' hown hchg; obtain rfl : n' = 0 + 1 := (by rw [List.length_replicate] at hn'; exact hn'); obtain ⟨z6, y6, N6⟩ := NX.out A' c' w6 hown ((Chg.alloc _ wr _).trans hchg); replace N6 := Lib.hid N6; clear hn' hown hchg)
        go_roundg (n - (0 + 1))
        case measure => have := hg.out; omega
        case rel => exact ⟨0 + 1, _, rfl, rfl, by omega, N6.out⟩
      · have kp := CW.out wr (j - 1) N.out.chg (by rw [hn.out]; omega)
        have up := UP.out (j - 1) (by rw [hn.out]; omega)
        rw [Nat.sub_add_cancel (by omega : 1 ≤ j)] at up
        obtain ⟨p, hp⟩ : ∃ p, j - 1 = p := ⟨_, rfl⟩
        rw [hp] at kp up
        have jp : (j : Int) - 1 = (p : Int) := by omega
        have pn : (p : Int) < (n : Int) := by omega
        have pn2 : p < n := by omega
        have uq : ¬ ((tz T j : Nat) : Int) ≤ ((tz T p : Nat) : Int) := by omega
        have jpos : (j : Int) > 0 := by omega
        generalize tz T j = yj at kj uq
        generalize tz T p = yp at kp uq
        clear hp up UP
        go_wp2_with (at_builtin; refine wpList_app rfl _ _ 25 rfl (b + 1) 3 .i64 8 Try.underlying25 infoInt _ (List.replicate j (-1)) rfl (NO.out.chg (Chg.alloc (fun _ => False) wr (.cells #[.int .i64 (-1)] 3)) (fun _ _ => id)) (some ⟨wr.heap.size, 0, none⟩) 1 1 [-1] rfl rfl (sl_lit wr .i64 [-1] 3 (0, 0)) (fun e => by cases e) ?h63 ?hby ?hba ?_; (case h63 => rw [List.length_replicate]; unfold maxLen; omega); (case hby => rw [List.length_replicate]; omega); (case hba => simp; omega); intro A' c' n' w6 hn' hown hchg; obtain rfl : n' = j + 1 := (by rw [List.length_replicate] at hn'; exact hn'); obtain ⟨z6, y6, N6⟩ := NX.out A' c' w6 hown ((Chg.alloc _ wr _).trans hchg); replace N6 := Lib.hid N6; clear hn' hown hchg)
        go_roundg (n - (j + 1))
        case measure => have := hg.out; omega
        case rel => exact ⟨j + 1, _, rfl, rfl, by omega, N6.out⟩
    · have h1' : ¬ (j : Int) < (n : Int) := by omega
      obtain rfl : j = n := by omega
      have FC := Lib.hid (free_calls N.out.lies)
      have PC := Lib.hid (pages_calls N.out.lies)
      rw [LF.out] at FC
      go_wp2_with fail
      refine FC.out.mono ?_
      rintro e w8 ⟨rfl, rfl⟩
      go_wp2_with fail
      refine PC.out.mono ?_
      rintro e w8 ⟨rfl, rfl⟩
      have NH := N.out
      rw [← hn.out] at NH
      obtain ⟨h, hb, k1, k2⟩ := NH.wb (by rw [hn.out]; exact t1) (by rw [hn.out]; exact t8)
      have F := Lib.hid (And.intro k1 (And.intro N.out.chg (And.intro N.out.b0 k2)))
      subst hb
      clear NH k1 k2 FC PC
      go_wp2_with fail
      go_ret2
      exact ⟨h, rfl, F.out⟩
end Go.Proofs.Ytmffdlebahdihaa.Slab

