/- What a queue's acts answer, over lists alone; and the walk of chapter 09's works. -/
import Derived.Test.YtfhffffdhlofgaaLinksAt
namespace Go.Proofs.Ytfhffffdhlofgaa.Links
open Go Go.RowKit Go.Proofs.Ytfhffffdhlofgaa.Mem Go.Proofs.Ytfhffffdhlofgaa.CodecPure Go.Proofs.Ytfhffffdhlofgaa.ArenaPure Go.Proofs.Ytfhffffdhlofgaa.Codec Go.Proofs.Ytfhffffdhlofgaa.Arena Go.Proofs.Ytfhffffdhlofgaa.Item
set_option linter.unusedVariables false
set_option maxRecDepth 100000
variable {B : Nat} {w0 w w' : World} {a : Ar} {h : Qh} {s : St} {L : List Int}
instance (x : Int) : Decidable (Chunk x) := by unfold Chunk; infer_instance
instance (x : Int) : Decidable (I64 x) := by unfold I64; infer_instance
def pushL (L : List Int) (x : Int) : List Int × Int := if x % 64 = 0 ∧ 0 ≤ x ∧ x < 3072 then if x ∈ L then (L, 4) else (x :: L, 0) else (L, 1)
def insL (L : List Int) (b x : Int) : List Int × Int := if b ∈ L then if x % 64 = 0 ∧ 0 ≤ x ∧ x < 3072 then if x ∈ L then (L, 4) else (ins b x L, 0) else (L, 1) else (L, 3)
def remL (L : List Int) (x : Int) : List Int × Int := if x ∈ L then (L.erase x, 0) else (L, 3)
theorem QA.pushed (k : QA B w0 w a h s L) {x : Int} (hx : Chunk x) : (Links.pushed s L x).2 = pushL L x := by
  unfold Links.pushed pushL
  have e := hx.within k.own
  by_cases hw : within s x 40
  · rw [if_pos hw, if_pos (e.1 hw)]; split <;> rfl
  · rw [if_neg hw, if_neg fun h => hw (e.2 h)]
theorem QA.inserted (k : QA B w0 w a h s L) {b x : Int} (hx : Chunk x) : (Links.inserted s L b x).2 = insL L b x := by
  unfold Links.inserted insL insTail
  have e := hx.within k.own
  by_cases hb : b ∈ L
  · rw [if_pos hb, if_pos hb]
    by_cases hw : within s x 40
    · rw [if_pos hw, if_pos (e.1 hw)]; split <;> rfl
    · rw [if_neg hw, if_neg fun h => hw (e.2 h)]
  · rw [if_neg hb, if_neg hb]
theorem removed_L (s : St) (L : List Int) (x : Int) : (removed s L x).2 = remL L x := by
  unfold removed remL
  split <;> rfl
/-- an act's answer, and the queue behind it -/
def QEnd (B : Nat) (w0 w : World) (a : Ar) (h : Qh) (L : List Int) (err : Int) (e : Ending) (w' : World) : Prop :=
  e = .returned (.int .i64 err) ∧ ∃ s, QA B w0 w' a h s L ∧ Chg (Q2 a h) w w'
theorem QA.pushE (k : QA B w0 w a h s L) {x err : Int} {L' : List Int} (hp : pushL L x = (L', err)) (hx : Chunk x) (hi : I64 x) : Calls Try.prog 16 #[(.pointer (some ⟨h.q, 0, none⟩)), (.int .i64 x)] w (QEnd B w0 w a h L' err) :=
  (k.push hx hi).mono fun e w1 ⟨h1, h2, h3⟩ => by
    have E := k.pushed hx
    rw [hp] at E
    rw [E] at h1 h2
    exact ⟨h1, _, h2, h3⟩
theorem QA.insertE (k : QA B w0 w a h s L) {b x err : Int} {L' : List Int} (hp : insL L b x = (L', err)) (hx : Chunk x) (hb : I64 b) (hi : I64 x) : Calls Try.prog 20 #[(.pointer (some ⟨h.q, 0, none⟩)), (.int .i64 b), (.int .i64 x)] w (QEnd B w0 w a h L' err) :=
  (k.insert hx hb hi).mono fun e w1 ⟨h1, h2, h3⟩ => by
    have E := k.inserted (b := b) hx
    rw [hp] at E
    rw [E] at h1 h2
    exact ⟨h1, _, h2, h3⟩
theorem QA.removeE (k : QA B w0 w a h s L) {x err : Int} {L' : List Int} (hp : remL L x = (L', err)) : Calls Try.prog 15 #[(.pointer (some ⟨h.q, 0, none⟩)), (.int .i64 x)] w (QEnd B w0 w a h L' err) :=
  (k.remove x).mono fun e w1 ⟨h1, h2, h3⟩ => by
    have E := removed_L s L x
    rw [hp] at E
    rw [E] at h1 h2
    exact ⟨h1, _, h2, h3⟩
theorem QA.tailE (k : QA B w0 w a h s L) {t : Int} {is : Bool} (hp : tail L = (t, is)) : Calls Try.prog 17 #[(.pointer (some ⟨h.q, 0, none⟩))] w fun e w' => e = .returned (.tuple #[.int .i64 t, .bool is]) ∧ w = w' := by
  have := tail_calls k.q
  rw [hp] at this
  exact this
theorem QA.listE (k : QA B w0 w a h s L) {n : Nat} (hn : L.length = n) (hlen : n ≤ 1000000) : Calls Try.prog 19 #[(.pointer (some ⟨h.q, 0, none⟩))] w fun e w' => ∃ A c, e = .returned (.slice A n c) ∧ Mem.Own w' w.heap.size 3 .i64 (.slice A n c) L ∧ QA B w0 w' a h s L ∧ Chg (fun _ => False) w w' :=
  (list_calls k.q (by omega)).mono fun e w1 ⟨v, h1, h2, h3⟩ => by
    obtain ⟨A, c, rfl⟩ := h2.form
    rw [hn] at h1 h2
    exact ⟨A, c, h1, h2, k.fresh h3, h3⟩
theorem QA.q2_lt (k : QA B w0 w a h s L) (x : Nat) (hx : Q2 a h x) : x < w.heap.size := by
  rcases hx with hx | rfl | rfl
  · exact k.here.pb_lt x hx
  · exact blk_lt k.q.head
  · exact k.q.set.lt
theorem QA.off (k : QA B w0 w a h s L) {W : World} {A : Option Addr} {n c : Nat} {l : List Int} {e : TypeId} (ho : Mem.Own W w.heap.size e .i64 (.slice A n c) l) : ∀ ad, A = some ad → ¬ Q2 a h ad.block := fun ad e hq => by
  have := (ho.base ad e).1
  have := k.q2_lt _ hq
  omega
theorem made_clean : ∀ k, k < 48 → (place (madeS 4) (64 * (k : Nat) + 4)).1 ≤ 0 ∧ (place (madeS 4) (64 * (k : Nat) + 8)).1 ≤ 0 := by decide +kernel
theorem QA.start {w1 : World} {r : Ra} (T : Two w.heap.size w w1 a r (madeS 4) (madeS 4)) : Calls Try.prog 14 #[(.pointer (some ⟨a.g, 0, none⟩))] w1 fun e w' => ∃ h : Qh, e = .returned (.pointer (some ⟨h.q, 0, none⟩)) ∧ QA w.heap.size w w' a h (madeS 4) [] ∧ Chg (fun _ => False) w1 w' ∧ w1.heap.size ≤ h.q ∧ w1.heap.size ≤ h.m :=
  (qnew_calls T.here.lies).mono fun e w2 ⟨h, h1, h2, h3, h4, h5⟩ => by
    have z := T.here.chg.size
    refine ⟨h, h1, ⟨T.here.fresh h3, h2, ⟨by omega, by omega⟩, fun y hy => by simp at hy, madeS_own, fun x hx hw _ => ?_⟩, h3, h4, h5⟩
    obtain ⟨x0, x1⟩ := (within_chunk madeS_own hx).1 hw
    obtain ⟨k, rfl⟩ : ∃ k : Nat, x = 64 * (k : Int) := ⟨(x / 64).toNat, by omega⟩
    exact made_clean k (by omega)
theorem small2 : (IntKind.u64.wrap 2).tmod 6 = ((2 : Nat) : Int) ∧ IntKind.u64.wrap 2 % 6 = ((2 : Nat) : Int) := by decide
set_option maxHeartbeats 4000000 in
theorem works_calls (w : World) : Calls Try.prog 12 #[] w fun e w' => e = .returned (.bool true) ∧ Chg (fun _ => False) w w' := by
  go_enter Try.func12, Try.ntmps12
  go_wp2_with fail
  refine (made_calls 2 w 2 (by decide) small2.1 small2.2).mono ?_
  rintro e w1 ⟨a, r, rfl, T⟩
  replace T := Lib.hid T
  go_wp2_with fail
  refine (QA.start T.out).mono ?_
  rintro e w2 ⟨h, rfl, H0, -, -, -⟩
  replace H0 := Lib.hid H0
  clear T
  have dK0 := H0.out.pushE (x := 0) (L' := [0]) (err := 0) (by decide) (by decide) (by decide)
  have dK1 := Lib.hid dK0
  clear dK0
  go_wp2_with fail
  refine dK1.out.mono ?_
  rintro e w3 ⟨rfl, s1, hnew, -⟩
  have H1 := Lib.hid hnew
  clear hnew dK1
  have dK0 := H1.out.pushE (x := 64) (L' := [64, 0]) (err := 0) (by decide) (by decide) (by decide)
  have dK1 := Lib.hid dK0
  clear dK0
  go_wp2_with fail
  refine dK1.out.mono ?_
  rintro e w4 ⟨rfl, s2, hnew, -⟩
  have H2 := Lib.hid hnew
  clear hnew dK1
  have dK0 := H2.out.pushE (x := 128) (L' := [128, 64, 0]) (err := 0) (by decide) (by decide) (by decide)
  have dK1 := Lib.hid dK0
  clear dK0
  go_wp2_with fail
  refine dK1.out.mono ?_
  rintro e w5 ⟨rfl, s3, hnew, -⟩
  have H3 := Lib.hid hnew
  clear hnew dK1
  have dK0 := H3.out.pushE (x := 64) (L' := [128, 64, 0]) (err := 4) (by decide) (by decide) (by decide)
  have dK1 := Lib.hid dK0
  clear dK0
  go_wp2_with fail
  refine dK1.out.mono ?_
  rintro e w6 ⟨rfl, s4, hnew, -⟩
  have H4 := Lib.hid hnew
  clear hnew dK1
  go_wp2_with fail
  refine (H4.out.listE (n := 3) rfl (by decide)).mono ?_
  rintro e w7 ⟨A, c, rfl, O7, H5, -⟩
  replace H5 := Lib.hid H5
  replace O7 := Lib.hid O7
  have NB := Lib.hid (H4.out.off O7.out)
  have SA := Lib.hid O7.out.sl
  clear O7
  go_wp2_with fail
  refine (H5.out.tailE (t := 0) (is := true) rfl).mono ?_
  rintro e w8 ⟨rfl, rfl⟩
  have dK0 := H5.out.removeE (x := 64) (L' := [128, 0]) (err := 0) (by decide)
  have dK1 := Lib.hid dK0
  clear dK0
  go_wp2_with fail
  refine dK1.out.mono ?_
  rintro e w8 ⟨rfl, s6, hnew, hc⟩
  have H6 := Lib.hid hnew
  clear hnew dK1
  have SB := Lib.hid (SA.out.chg hc NB.out)
  clear hc
  have dK0 := H6.out.insertE (b := 128) (x := 192) (L' := [128, 192, 0]) (err := 0) (by decide) (by decide) (by decide) (by decide)
  have dK1 := Lib.hid dK0
  clear dK0
  go_wp2_with fail
  refine dK1.out.mono ?_
  rintro e w9 ⟨rfl, s7, hnew, hc⟩
  have H7 := Lib.hid hnew
  clear hnew dK1
  have SC := Lib.hid (SB.out.chg hc NB.out)
  clear hc SA SB
  have hs9 := sl_lit w9 .i64 [128, 64, 0] 3 (0, 0)
  have C9 := same06_calls (c := c) (d := 3) (SC.out.chg (Chg.alloc (fun _ => False) w9 (.cells #[.int .i64 128, .int .i64 64, .int .i64 0] 3)) (fun _ _ => id)) hs9 (by decide)
  replace C9 := Lib.hid C9
  clear hs9
  go_wp2_with fail
  refine C9.out.mono ?_
  rintro e w10 ⟨rfl, hd⟩
  have H8 := Lib.hid (H7.out.fresh ((Chg.alloc (fun _ => False) w9 _).trans (hd.chg _)))
  clear hd C9 SC
  go_wp2_with fail
  refine (H8.out.listE (n := 3) rfl (by decide)).mono ?_
  rintro e w11 ⟨A2, c2, rfl, O11, H9, -⟩
  replace H9 := Lib.hid H9
  have C11 := same06_calls (c := c2) (d := 3) (O11.sl.chg (Chg.alloc (fun _ => False) w11 (.cells #[.int .i64 128, .int .i64 192, .int .i64 0] 3)) (fun _ _ => id)) (sl_lit w11 .i64 [128, 192, 0] 3 (0, 0)) (by decide)
  replace C11 := Lib.hid C11
  clear O11
  go_wp2_with fail
  refine C11.out.mono ?_
  rintro e w12 ⟨rfl, hd⟩
  have H10 := Lib.hid (H9.out.fresh ((Chg.alloc (fun _ => False) w11 _).trans (hd.chg _)))
  clear hd C11
  have dK0 := H10.out.removeE (x := 64) (L' := [128, 192, 0]) (err := 3) (by decide)
  have dK1 := Lib.hid dK0
  clear dK0
  go_wp2_with fail
  refine dK1.out.mono ?_
  rintro e w13 ⟨rfl, s11, hnew, -⟩
  have H11 := Lib.hid hnew
  clear hnew dK1
  have dK0 := H11.out.pushE (x := -1) (L' := [128, 192, 0]) (err := 1) (by decide) (by decide) (by decide)
  have dK1 := Lib.hid dK0
  clear dK0
  go_wp2_with fail
  refine dK1.out.mono ?_
  rintro e w14 ⟨rfl, s12, hnew, -⟩
  have H12 := Lib.hid hnew
  clear hnew dK1
  go_wp2_with fail
  go_ret
  exact ⟨rfl, H12.out.here.chg.mono fun _ hl hb => by omega⟩
end Go.Proofs.Ytfhffffdhlofgaa.Links
