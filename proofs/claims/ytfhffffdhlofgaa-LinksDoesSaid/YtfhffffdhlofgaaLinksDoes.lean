/- The walk of the law LinksDoes: it returns true at any acts. -/
import Derived.Test.YtfhffffdhlofgaaRefQ3
import Derived.Test.YtfhffffdhlofgaaLinksWalk
import Derived.Deep.RegionHeld3
import Derived.OpenShut
namespace Go.Proofs.Ytfhffffdhlofgaa.Links
open Go Go.RowKit Go.Proofs.Ytfhffffdhlofgaa.Mem Go.Proofs.Ytfhffffdhlofgaa.CodecPure Go.Proofs.Ytfhffffdhlofgaa.ArenaPure Go.Proofs.Ytfhffffdhlofgaa.Codec Go.Proofs.Ytfhffffdhlofgaa.Arena Go.Proofs.Ytfhffffdhlofgaa.Item
set_option linter.unusedVariables false
set_option maxRecDepth 100000
variable {B C p : Nat} {w0 w w' : World} {a : Ar} {r : Ra} {h : Qh} {s s' s2 : St} {L L' L2 : List Int}
/-- the program's queue and the reference's, apart from one another -/
structure QR (B : Nat) (w0 w : World) (a : Ar) (r : Ra) (h : Qh) (p C : Nat) (s : St) (L : List Int) (s' : St) (L' : List Int) : Prop where
  q : QA B w0 w a h s L
  rq : RQ C w r p s' L'
  sepq : ∀ x, Q2 a h x → x < C ∧ x ≠ r.g ∧ x ≠ r.o ∧ x ≠ r.b ∧ x ≠ p
  sepr : ∀ y, (y = r.g ∨ r.has y ∨ y = p) → B ≤ y ∧ y ≠ a.g ∧ y ≠ a.ps ∧ y ∉ a.pb ∧ y ≠ h.q ∧ y ≠ h.m
theorem QA.other {S : Nat → Prop} (k : QA B w0 w a h s L) (hc : Chg S w w') (hS : ∀ y, S y → B ≤ y ∧ y ≠ a.g ∧ y ≠ a.ps ∧ y ∉ a.pb ∧ y ≠ h.q ∧ y ≠ h.m) : QA B w0 w' a h s L := by
  have hl : Lies w' a s := k.here.lies.chg hc (fun e => (hS _ e).2.1 rfl) (fun e => (hS _ e).2.2.1 rfl) fun b hb e => (hS _ e).2.2.2.1 hb
  exact ⟨⟨hl, k.here.chg.trans (hc.mono fun b _ hb => (hS b hb).1), k.here.low⟩,
   ⟨hl, k.q.li, hc.keep k.q.head fun e => (hS _ e).2.2.2.2.1 rfl, k.q.set.chg hc fun e => (hS _ e).2.2.2.2.2 rfl, k.q.out⟩, k.low, k.mult, k.own, k.clean⟩
theorem QR.opQ (k : QR B w0 w a r h p C s L s' L') (hq : QA B w0 w' a h s2 L2) (hc : Chg (Q2 a h) w w') : QR B w0 w' a r h p C s2 L2 s' L' :=
  ⟨hq, k.rq.chg hc k.sepq, k.sepq, k.sepr⟩
theorem QR.opR (k : QR B w0 w a r h p C s L s' L') (hq : RQ C w' r p s2 L2) (hc : Chg (fun y => r.has y ∨ y = p) w w') : QR B w0 w' a r h p C s L s2 L2 :=
  ⟨k.q.other hc fun y hy => k.sepr y (.inr hy), hq, k.sepq, k.sepr⟩
theorem QR.fresh (k : QR B w0 w a r h p C s L s' L') (hc : Chg (fun _ => False) w w') : QR B w0 w' a r h p C s L s' L' :=
  ⟨k.q.fresh hc, k.rq.fresh hc, k.sepq, k.sepr⟩
theorem QR.two (k : QR B w0 w a r h p C s L s L) : Two B w0 w a r s s :=
  ⟨k.q.here, k.rq.ref, ⟨(k.sepr _ (.inl rfl)).1, (k.sepr _ (.inr (.inl (.inl rfl)))).1, (k.sepr _ (.inr (.inl (.inr rfl)))).1⟩, fun x hx => by
    have := k.sepr x (by
      rcases hx with e | e | e
      · exact .inl e
      · exact .inr (.inl (.inl e))
      · exact .inr (.inl (.inr e)))
    exact ⟨this.2.1, this.2.2.1, this.2.2.2.1⟩⟩
/-- both queues, without items -/
theorem QR.start {w1 w2 : World} (T : Two B w0 w1 a r s s) (k : QA B w0 w2 a h s []) (hc : Chg (fun _ => False) w1 w2) (h1 : w1.heap.size ≤ h.q) (h2 : w1.heap.size ≤ h.m) :
    QR B w0 (w2.alloc (.cells #[(.pointer (some ⟨r.g, 0, none⟩)), .slice none 0 0] 50)) a r h w2.heap.size (w2.heap.size + 1) s [] s [] := by
  have rg := blk_lt T.ref.head
  have ro := T.ref.o_lt
  have rb := T.ref.b_lt
  have sz := hc.size
  have bl := k.blocks
  have hl := T.ref.chg (hc.trans (Chg.alloc (fun _ => False) w2 (.cells #[(.pointer (some ⟨r.g, 0, none⟩)), .slice none 0 0] 50))) id id id
  have hb := heap_alloc_at w2 (.cells #[(.pointer (some ⟨r.g, 0, none⟩)), .slice none 0 0] 50)
  have ap := T.apart
  have lo := T.low
  refine ⟨k.fresh (Chg.alloc _ _ _), ⟨hl, ⟨none, 0, hb, Mem.Own.nil _ _ _ _⟩, ⟨by omega, by omega, by omega, by omega, by simp⟩, ⟨by omega, by omega, by omega⟩, fun x hx => by simp at hx, by simp⟩, fun x hx => ?_, fun y hy => ?_⟩
  · have lt := k.q2_lt x hx
    refine ⟨by omega, fun e => ?_, fun e => ?_, fun e => ?_, by omega⟩
    · rcases hx with hx | hx | hx
      · exact (ap r.g (.inl rfl)).2.2 (e ▸ hx)
      · omega
      · omega
    · rcases hx with hx | hx | hx
      · exact (ap r.o (.inr (.inl rfl))).2.2 (e ▸ hx)
      · omega
      · omega
    · rcases hx with hx | hx | hx
      · exact (ap r.b (.inr (.inr rfl))).2.2 (e ▸ hx)
      · omega
      · omega
  · rcases hy with e | (e | e) | e
    · have := ap y (.inl e); subst e; exact ⟨lo.1, this.1, this.2.1, this.2.2, by omega, by omega⟩
    · have := ap y (.inr (.inl e)); subst e; exact ⟨lo.2.1, this.1, this.2.1, this.2.2, by omega, by omega⟩
    · have := ap y (.inr (.inr e)); subst e; exact ⟨lo.2.2, this.1, this.2.1, this.2.2, by omega, by omega⟩
    · subst e
      exact ⟨by omega, by omega, by omega, fun hm => by have := bl.2.2.1 _ hm; omega, by omega, by omega⟩
/-- a chunk's place out of a number -/
def chunkOf (n : Int) : Int := if n < 0 ∨ 1000 ≤ n then n else 64 * n
theorem chunk_calls (n : Int) (w : World) : Calls Try.prog 26 #[(.int .i64 n)] w fun e w' => e = .returned (.int .i64 (chunkOf n)) ∧ w = w' := by
  unfold chunkOf
  by_cases h : n < 0 ∨ 1000 ≤ n
  · rw [if_pos h]
    rcases h with h | h
    · go_enter Try.func26, Try.ntmps26
      go_wp2
      go_ret
      exact ⟨rfl, rfl⟩
    · have h' : ¬ n < 0 := by omega
      go_enter Try.func26, Try.ntmps26
      go_wp2
      go_ret
      exact ⟨rfl, rfl⟩
  · rw [if_neg h]
    have h1 : ¬ n < 0 := by omega
    have h2 : n < 1000 := by omega
    clear h
    go_enter Try.func26, Try.ntmps26
    go_wp2
    go_ret
    exact ⟨rfl, rfl⟩
theorem chunk_same (n : Int) (w : World) : Calls Try.prog 26 #[(.int .i64 n)] w fun e w' => e = .returned (.int .i64 (chunkOf n)) ∧ w' = w := (chunk_calls n w).mono fun _ _ ⟨h1, h2⟩ => ⟨h1, h2.symm⟩
/-- not in between -/
def FarOk (n : Int) : Prop := ¬ (1000 ≤ n ∧ n < 1048576)
theorem FarOk.chunk {n : Int} (h : FarOk n) (hi : I64 n) : Chunk (chunkOf n) ∧ I64 (chunkOf n) := by
  unfold FarOk at h
  unfold chunkOf I64 Chunk at *
  split <;> omega
def FarEnd (w : World) (n : Nat) (l : List (List Int)) (e : Ending) (w' : World) : Prop := ∃ b : Bool, e = .returned (.bool b) ∧ (b = false → ∀ i, i < n → FarOk ((l.getD i []).getD 1 0) ∧ FarOk ((l.getD i []).getD 2 0)) ∧ Chg (fun _ => False) w w'
theorem FarEnd.yes {n : Nat} {l : List (List Int)} {e : Ending} (he : e = .returned (.bool true)) (hc : Chg (fun _ => False) w w') : FarEnd w n l e w' := ⟨true, he, (fun h => by cases h), hc⟩
theorem FarEnd.no {n : Nat} {l : List (List Int)} {e : Ending} (h : ∀ i, i < n → FarOk ((l.getD i []).getD 1 0) ∧ FarOk ((l.getD i []).getD 2 0)) (he : e = .returned (.bool false)) (hc : Chg (fun _ => False) w w') : FarEnd w n l e w' := ⟨false, he, (fun _ => h), hc⟩
set_option maxHeartbeats 1000000 in
theorem far_calls (A : Option Addr) (c : Nat) (l : List (List Int)) (w : World) (hl : SRow w [.i64, .i64, .i64] A c l) :
    Calls Try.prog 25 #[.slice A l.length c] w (FarEnd w l.length l) := by
  have hlm : l.length ≤ 9223372036854775807 := Nat.le_trans hl.cap hl.most
  replace hl := Lib.hid hl
  obtain ⟨n, hn⟩ : ∃ n, l.length = n := ⟨_, rfl⟩
  rw [hn] at hlm ⊢
  replace hn := Lib.hid hn
  go_enter Try.func25, Try.ntmps25
  go_wp2_with fail
  go_loopg [3] n (fun g i wr => ∃ k : Nat, i = .int .i64 k ∧ g = n - k ∧ k ≤ n ∧ Hid (Dr w wr) ∧ Hid (∀ i, i < k → FarOk ((l.getD i []).getD 1 0) ∧ FarOk ((l.getD i []).getD 2 0)))
  case atStart => exact ⟨0, rfl, rfl, by omega, Dr.refl w, fun i hi => by omega⟩
  case round =>
    obtain ⟨k, rfl, hg, hk, HD, HN⟩ := hrel
    obtain ⟨wo, rfl⟩ : ∃ wo : World, wo = wr := ⟨_, rfl⟩
    replace hg := Lib.hid hg
    have C0 := Lib.hid (HD.out.chg (fun _ => False))
    by_cases h1 : k < n
    · have h1' : (k : Int) < n := by omega
      have SR := hl.out.chg (C0.out.mono (T := fun b => w.heap.size ≤ b) fun _ _ h => h.elim) (Nat.le_refl _)
      obtain ⟨ad, rfl, d0, d1⟩ := SR.fields k (by rw [hn.out]; exact h1) (by decide)
      have f1 := d1 0 .i64 rfl
      have f2 := d1 1 .i64 rfl
      simp only [List.length_cons, List.length_nil, Nat.reduceAdd, Nat.zero_add] at f1 f2
      clear d0 d1 SR
      obtain ⟨x, hx⟩ : ∃ x, (l.getD k []).getD 1 0 = x := ⟨_, rfl⟩
      obtain ⟨y, hy⟩ : ∃ y, (l.getD k []).getD 2 0 = y := ⟨_, rfl⟩
      rw [hx] at f1
      rw [hy] at f2
      replace hx := Lib.hid hx
      replace hy := Lib.hid hy
      by_cases ok : FarOk x ∧ FarOk y
      · have HN2 : Hid (∀ i, i < k + 1 → FarOk ((l.getD i []).getD 1 0) ∧ FarOk ((l.getD i []).getD 2 0)) := fun i hi => by
          by_cases e : i = k
          · rw [e, hx.out, hy.out]; exact ok
          · exact HN.out i (by omega)
        obtain ⟨o1, o2⟩ := ok
        unfold FarOk at o1 o2
        have e1 : x < 1000 ∨ (1000 ≤ x ∧ ¬ x < 1048576) := by omega
        have e2 : y < 1000 ∨ (1000 ≤ y ∧ ¬ y < 1048576) := by omega
        clear o1 o2
        rcases e1 with e1 | ⟨e1, e1'⟩ <;> rcases e2 with e2 | ⟨e2, e2'⟩ <;>
        (go_wp2_with fail
         go_roundg (n - (k + 1))
         case measure => have := hg.out; omega
         case rel => exact ⟨k + 1, rfl, rfl, by omega, HD.out, HN2.out⟩)
      · have e : (1000 ≤ x ∧ x < 1048576) ∨ (x < 1000 ∧ 1000 ≤ y ∧ y < 1048576) ∨ (1000 ≤ x ∧ ¬ x < 1048576 ∧ 1000 ≤ y ∧ y < 1048576) := by unfold FarOk at ok; omega
        clear ok
        rcases e with ⟨e1, e2⟩ | ⟨e1, e2, e3⟩ | ⟨e1, e2, e3, e4⟩ <;>
        (go_wp2_with fail
         go_ret
         exact FarEnd.yes rfl C0.out)
    · have h1' : ¬ (k : Int) < n := by omega
      go_wp2_with fail
      go_ret
      exact FarEnd.no (fun i hi => HN.out i (by omega)) rfl C0.out
theorem SRow.wf_i64 {w : World} {A : Option Addr} {c : Nat} {l : List (List Int)} (h : SRow w [.i64, .i64, .i64] A c l) (i : Nat) (hi : i < l.length) (j : Nat) (hj : j < 3) : I64 ((l.getD i []).getD j 0) := by
  have := h.wf i hi j .i64 (by
    match j, hj with
    | 0, _ => rfl
    | 1, _ => rfl
    | 2, _ => rfl)
  have := bounds_i64 this
  unfold I64; omega
theorem insL_len (L : List Int) (b x : Int) : (insL L b x).1.length ≤ L.length + 1 := by
  unfold insL
  split
  · split
    · split
      · exact Nat.le_succ _
      · rename_i h _ _
        rw [ins_idx h, List.length_append, List.length_append, List.length_take, List.length_drop, List.length_singleton]
        have := List.idxOf_lt_length_iff.2 h
        omega
    · exact Nat.le_succ _
  · exact Nat.le_succ _
set_option maxHeartbeats 1000000 in
theorem does_walk (A : Option Addr) (c : Nat) (l : List (List Int)) (w : World) (hl : SRow w [.i64, .i64, .i64] A c l) :
    Calls Try.prog 7 #[.slice A l.length c] w fun e w' => e = .returned (.bool true) ∧ Below w.heap.size w w' := by
  have hlm : l.length ≤ 9223372036854775807 := Nat.le_trans hl.cap hl.most
  have FC := far_calls A c l w hl
  replace hl := Lib.hid hl
  obtain ⟨n, hn⟩ : ∃ n, l.length = n := ⟨_, rfl⟩
  rw [hn] at hlm FC ⊢
  replace hn := Lib.hid hn
  replace FC := Lib.hid FC
  go_enter Try.func7, Try.ntmps7
  go_wp2_with fail
  refine FC.out.mono ?_
  rintro e wa ⟨b, rfl, HF, hc⟩
  have CA := Lib.hid hc
  clear hc FC
  cases b with
  | true =>
    clear HF
    go_wp2_with fail
    go_ret
    exact ⟨rfl, CA.out.below (Nat.le_refl _) fun _ h => h.elim⟩
  | false =>
  replace HF := Lib.hid (HF rfl)
  go_wp2_with fail
  refine (made_calls 2 wa 2 (by decide) small2.1 small2.2).mono ?_
  rintro e w1 ⟨a, r, rfl, T⟩
  replace T := Lib.hid T
  go_wp2_with fail
  refine (QA.start T.out).mono ?_
  rintro e w2 ⟨h, rfl, H0, hc, h1, h2⟩
  have K0 := Lib.hid (QR.start T.out H0 hc h1 h2)
  clear H0 hc h1 h2 T
  obtain ⟨p, hp⟩ : ∃ p, p = w2.heap.size := ⟨_, rfl⟩
  rw [← hp] at K0
  go_wp2_with fail
  rw [← hp]
  replace hp := Lib.hid hp
  go_loopg [8] 60 (fun g i wr => ∃ (k : Nat) (s : St) (L : List Int), i = .int .i64 k ∧ g = 60 - k ∧ k ≤ 60 ∧ k ≤ n ∧ L.length ≤ k ∧ Hid (QR wa.heap.size wa wr a r h p (p + 1) s L s L))
  case atStart => exact ⟨0, _, [], rfl, rfl, by omega, by omega, by simp, K0.out⟩
  case round =>
    obtain ⟨k, s, L, rfl, hg, hk, hkn, hL, H1⟩ := hrel
    obtain ⟨wo, rfl⟩ : ∃ wo : World, wo = wr := ⟨_, rfl⟩
    replace hg := Lib.hid hg
    replace hL := Lib.hid hL
    by_cases hlt : k < n ∧ k < 60
    · obtain ⟨h1, h2⟩ := hlt
      have h1' : (k : Int) < n := by omega
      have h2' : (k : Int) < 60 := by omega
      have CC : Chg (fun b => w.heap.size ≤ b) w wo := (CA.out.mono fun _ _ h => h.elim).trans (H1.out.q.here.chg.mono fun b _ hb => Nat.le_trans CA.out.size hb)
      have SR := hl.out.chg CC (Nat.le_refl _)
      obtain ⟨ad, rfl, d0, d1⟩ := SR.fields k (by rw [hn.out]; exact h1) (by decide)
      have f0 := d0 .i64 rfl
      have f1 := d1 0 .i64 rfl
      have f2 := d1 1 .i64 rfl
      simp only [List.length_cons, List.length_nil, Nat.reduceAdd, Nat.zero_add] at f0 f1 f2
      have i1 := SRow.wf_i64 hl.out k (by rw [hn.out]; exact h1) 1 (by decide)
      have i2 := SRow.wf_i64 hl.out k (by rw [hn.out]; exact h1) 2 (by decide)
      have o := HF.out k h1
      clear d0 d1 SR CC
      generalize (l.getD k []).getD 0 0 = kind at f0
      generalize (l.getD k []).getD 1 0 = x1 at f1 i1 o
      generalize (l.getD k []).getD 2 0 = x2 at f2 i2 o
      have ck1 := Lib.hid (o.1.chunk i1)
      have ck2 := Lib.hid (o.2.chunk i2)
      clear o i1 i2 K0 CA hl HF
      go_wp2_with fail
      go_quiet ((go_at_call 26; exact Calls.quiet_of_same (chunk_same _ _)))
      have OC : Hid (Chg (fun _ => False) wo ((wo.alloc (.cells #[.int .i64 kind, .int .i64 x1, .int .i64 x2] 33)).drewN nq)) := (Chg.alloc _ _ _).trans (Chg.drewN _ _ _)
      have H2 := Lib.hid (H1.out.fresh OC.out)
      have FB : Hid (((wo.alloc (.cells #[.int .i64 kind, .int .i64 x1, .int .i64 x2] 33)).drewN nq).heap[wo.heap.size]? = some (.cells #[.int .i64 kind, .int .i64 x1, .int .i64 x2] 33 (0, 0))) := heap_alloc_at _ _
      have g0 : ((wo.alloc (.cells #[.int .i64 kind, .int .i64 x1, .int .i64 x2] 33)).drewN nq).cell? ⟨wo.heap.size, 0, none⟩ = some ((.int .i64 kind)) := by rw [blk_cell FB.out]; rfl
      clear OC FB H1 f0 f1 f2
      generalize chunkOf x1 = x at ck1 ⊢
      generalize chunkOf x2 = y at ck2 ⊢
      generalize (wo.alloc (.cells #[.int .i64 kind, .int .i64 x1, .int .i64 x2] 33)).drewN nq = w4 at H2 g0 ⊢
      have lm : L.length < 1000000 := by have := hL.out; omega
      have LI0 := Lib.hid H2.out.q.q.li
      have AP := Lib.hid (H2.out.q.ap ck1.out.1)
      go_upto_block 2 with fail
      go_cut [] (fun wx => ∃ (s2 : St) (L2 : List Int), Hid (L2.length ≤ k + 1) ∧ Hid (QR wa.heap.size wa wx a r h p (p + 1) s2 L2 s2 L2))
      case first =>
        have ACT : ∀ (z : St × List Int × Int) (w5 : World), Hid (z.2.1.length ≤ k + 1) → QA wa.heap.size wa w5 a h z.1 z.2.1 → Chg (Q2 a h) w4 w5 → Hid (QR wa.heap.size wa w5 a r h p (p + 1) z.1 z.2.1 s L) := fun z w5 _ hq hc => H2.out.opQ hq hc
        replace ACT := Lib.hid ACT
        by_cases e0 : kind = 0
        · have t0 : (kind == 0) = true := by rw [e0]; rfl
          clear e0
          have P := Lib.hid (H2.out.q.push ck1.out.1 ck1.out.2)
          have RP := Lib.hid (fun W (k : RQ (p + 1) W r p s L) => rpush_calls k x ck1.out.2 lm)
          rw [rpushed_eq LI0.out AP.out] at RP
          have z : Hid ((pushed s L x).2.1.length ≤ k + 1) := by rw [H2.out.q.pushed ck1.out.1]; have := pushL_len L x; have := hL.out; show _ ≤ _; omega
          generalize pushed s L x = z' at P RP z
          clear AP LI0
          go_wp2_with fail
          refine P.out.mono ?_
          rintro e w5 ⟨rfl, hq, hc⟩
          have H5 := ACT.out z' w5 z hq hc
          clear hq hc P
          go_wp2_with fail
          refine (RP.out w5 H5.out.rq).mono ?_
          rintro e w6 ⟨rfl, hr, hc⟩
          have H6 := Lib.hid (H5.out.opR hr hc)
          clear hr hc RP g0
          go_wp2_with fail
          go_meet
          exact ⟨_, _, z, H6.out⟩
        · have t0 : (kind == 0) = false := by rw [beq_eq_false_iff_ne]; exact e0
          clear e0
          by_cases e1 : kind = 1
          · have t1 : (kind == 1) = true := by rw [e1]; rfl
            clear e1
            have P := Lib.hid (H2.out.q.remove x)
            have RP := Lib.hid (fun W (k : RQ (p + 1) W r p s L) => rremove_calls k x ck1.out.2)
            rw [rremoved_eq LI0.out] at RP
            have z : Hid ((removed s L x).2.1.length ≤ k + 1) := by rw [removed_L]; have := remL_len L x; have := hL.out; show _ ≤ _; omega
            generalize removed s L x = z' at P RP z
            clear AP LI0
            go_wp2_with fail
            refine P.out.mono ?_
            rintro e w5 ⟨rfl, hq, hc⟩
            have H5 := ACT.out z' w5 z hq hc
            clear hq hc P
            go_wp2_with fail
            refine (RP.out w5 H5.out.rq).mono ?_
            rintro e w6 ⟨rfl, hr, hc⟩
            have H6 := Lib.hid (H5.out.opR hr hc)
            clear hr hc RP g0
            go_wp2_with fail
            go_meet
            exact ⟨_, _, z, H6.out⟩
          · have t1 : (kind == 1) = false := by rw [beq_eq_false_iff_ne]; exact e1
            clear e1
            have P := Lib.hid (H2.out.q.insert (b := y) ck1.out.1 ck2.out.2 ck1.out.2)
            have RP := Lib.hid (fun W (k : RQ (p + 1) W r p s L) => rinsert_calls k y x ck1.out.2 lm)
            rw [rinserted_eq LI0.out AP.out] at RP
            have z : Hid ((inserted s L y x).2.1.length ≤ k + 1) := by rw [H2.out.q.inserted ck1.out.1]; have := insL_len L y x; have := hL.out; show _ ≤ _; omega
            generalize inserted s L y x = z' at P RP z
            clear AP LI0
            go_wp2_with fail
            refine P.out.mono ?_
            rintro e w5 ⟨rfl, hq, hc⟩
            have H5 := ACT.out z' w5 z hq hc
            clear hq hc P
            go_wp2_with fail
            refine (RP.out w5 H5.out.rq).mono ?_
            rintro e w6 ⟨rfl, hr, hc⟩
            have H6 := Lib.hid (H5.out.opR hr hc)
            clear hr hc RP g0
            go_wp2_with fail
            go_meet
            exact ⟨_, _, z, H6.out⟩
      case rest =>
        obtain ⟨s2, L2, HL2, H8⟩ := hcut
        clear g0 H2 LI0 AP
        have T1 := Lib.hid (tail_calls H8.out.q.q)
        have T2 := Lib.hid (rtail_calls H8.out.rq)
        have B1 := Lib.hid (fun W (k : QR wa.heap.size wa W a r h p (p + 1) s2 L2 s2 L2) => before_calls k.q.q x)
        have B2 := Lib.hid (fun W (k : QR wa.heap.size wa W a r h p (p + 1) s2 L2 s2 L2) => rbefore_calls k.rq k.q.q.li.nodup x)
        have HA1 := Lib.hid (fun W (k : QR wa.heap.size wa W a r h p (p + 1) s2 L2 s2 L2) => has_calls k.q.q x)
        have HA2 := Lib.hid (fun W (k : QR wa.heap.size wa W a r h p (p + 1) s2 L2 s2 L2) => rhas_calls k.rq x)
        generalize (tail L2).1 = t1 at T1 T2
        generalize (tail L2).2 = t2 at T1 T2
        generalize (before L2 x).1 = t3 at B1 B2
        generalize (before L2 x).2 = t4 at B1 B2
        generalize decide (x ∈ L2) = t5 at HA1 HA2
        go_wp2_with fail
        refine T1.out.mono ?_
        rintro e w5 ⟨rfl, rfl⟩
        clear T1
        go_wp2_with fail
        refine T2.out.mono ?_
        rintro e w5 ⟨rfl, hc⟩
        have H9 := Lib.hid (H8.out.fresh hc)
        clear hc T2 H8
        go_wp2_with fail
        refine (B1.out w5 H9.out).mono ?_
        rintro e w6 ⟨rfl, hc⟩
        have H10 := Lib.hid (H9.out.fresh hc)
        clear hc B1 H9
        go_wp2_with fail
        refine (B2.out w6 H10.out).mono ?_
        rintro e w7 ⟨rfl, hc⟩
        have H11 := Lib.hid (H10.out.fresh hc)
        clear hc B2 H10
        obtain ⟨m, hm⟩ : ∃ m, L2.length = m := ⟨_, rfl⟩
        have hm60 : m ≤ 1000000 := by have := HL2.out; omega
        obtain ⟨A2, c2, -, g7, -, o7⟩ := H11.out.rq.open
        rw [hm] at g7
        replace hm := Lib.hid hm
        have S7 := Lib.hid o7.sl
        have H11d := Lib.hid (H11.out.fresh (Chg.drew _ w7))
        have g7d : (World.drew w7).cell? ⟨p, 1, none⟩ = some (.slice A2 m c2) := (Chg.drew (fun _ => False) w7).cell g7 id
        have S7d : Hid (Sl (World.drew w7) .i64 A2 L2) := S7.out.chg (Chg.drew (fun _ => False) w7) fun _ _ => id
        clear o7
        go_wp2_with fail
        go_region_held3 (fun w' => w'.cell? ⟨p, 1, none⟩ = some (.slice A2 m c2)) (go_keep)
          (first
            | (go_at_call 23; refine (HA1.out _ H11d.out).mono ?_; rintro e w8 ⟨rfl, rfl⟩; skip)
            | (go_at_call 32; refine (HA2.out _ H11d.out).mono ?_; rintro e w8 ⟨rfl, hc⟩; have H12 := Lib.hid (H11d.out.fresh hc); have g8 : w8.cell? ⟨p, 1, none⟩ = some (.slice A2 m c2) := (hc.cell g7d id); have S8 := Lib.hid (S7d.out.chg hc fun _ _ => id); clear hc; skip)
            | (go_at_call 18; refine (H12.out.q.lenE hm.out).mono ?_; rintro e w9 ⟨rfl, rfl⟩; skip)
            | (go_at_call 19; refine (H12.out.q.listE hm.out hm60).mono ?_; rintro e w9 ⟨A3, c3, rfl, O9, -, hc⟩; have H13 := Lib.hid (H12.out.fresh hc); have g9 : w9.cell? ⟨p, 1, none⟩ = some (.slice A2 m c2) := (hc.cell g8 id); have S9 := Lib.hid (S8.out.chg hc fun _ _ => id); have SO := Lib.hid O9.sl; have Z9 := same06_calls (c := c3) (d := c2) SO.out S9.out (by rw [hm.out]; exact hm60); rw [hm.out] at Z9; replace Z9 := Lib.hid Z9; clear hc O9; skip)
            | (go_at_call 21; refine Z9.out.mono ?_; rintro e w10 ⟨rfl, hd⟩; have H14 := Lib.hid (H13.out.fresh (hd.chg _)); have g10 : w10.cell? ⟨p, 1, none⟩ = some (.slice A2 m c2) := ((hd.chg (fun _ => False)).cell g9 id); clear hd; skip))
        clear g7 g7d g8 g9 g10
        go_wp2_with fail
        go_roundg (60 - (k + 1))
        case measure => have := hg.out; omega
        case rel => exact ⟨k + 1, s2, L2, rfl, rfl, by omega, by omega, HL2.out, H14.out⟩
    · have hend : ((n : Int) ≤ k) ∨ ((k : Int) < n ∧ ¬ (k : Int) < 60) := by omega
      have SC := Lib.hid (same_calls H1.out.two)
      have CB : Hid (∀ W, Chg (fun b => wa.heap.size ≤ b) wa W → Below w.heap.size w W) := fun W hc => ((CA.out.mono fun _ _ h => h.elim).trans (hc.mono fun b _ hb => Nat.le_trans CA.out.size hb)).below (Nat.le_refl _) fun _ h => h
      clear hg hlt hL K0 hl HF H1
      rcases hend with he | ⟨he, he2⟩ <;>
      (go_wp2_with fail
       refine SC.out.mono ?_
       rintro e w5 ⟨rfl, ht⟩
       have F := Lib.hid (CB.out w5 ht.here.chg)
       clear ht SC
       go_wp2_with fail
       go_ret
       exact ⟨rfl, F.out⟩)
end Go.Proofs.Ytfhffffdhlofgaa.Links
