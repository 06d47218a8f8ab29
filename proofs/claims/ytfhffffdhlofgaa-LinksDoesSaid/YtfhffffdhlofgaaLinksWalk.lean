/- The walk of the law LinksWalk: it returns true at any acts. -/
import Derived.Test.YtfhffffdhlofgaaLinksWorks
import Derived.Test.YtfhffffdhlofgaaOps
import Derived.Deep.CutBlock
namespace Go.Proofs.Ytfhffffdhlofgaa.Links
open Go Go.RowKit Go.Proofs.Ytfhffffdhlofgaa.Mem Go.Proofs.Ytfhffffdhlofgaa.CodecPure Go.Proofs.Ytfhffffdhlofgaa.ArenaPure Go.Proofs.Ytfhffffdhlofgaa.Codec Go.Proofs.Ytfhffffdhlofgaa.Arena Go.Proofs.Ytfhffffdhlofgaa.Item
set_option linter.unusedVariables false
set_option maxRecDepth 100000
variable {B : Nat} {w0 w w' : World} {a : Ar} {h : Qh} {s : St} {L : List Int}
theorem prev_at : ∀ (L : List Int) (p : Int) (i : Nat), L.Nodup → i < L.length → prevL (L.getD i 0) p L = if i = 0 then p else L.getD (i - 1) 0 := by
  intro L
  induction L with
  | nil => intro p i _ hi; simp at hi
  | cons y ys ih =>
    intro p i hn hi
    cases i with
    | zero => simp [prevL]
    | succ i =>
      have hy := (List.nodup_cons.1 hn)
      have e : (y :: ys).getD (i + 1) 0 = ys.getD i 0 := rfl
      have hi' : i < ys.length := by simpa using hi
      have hmem : ys.getD i 0 ∈ ys := by rw [List.getD_eq_getElem?_getD, List.getElem?_eq_getElem hi']; exact List.getElem_mem hi'
      have ne : y ≠ ys.getD i 0 := fun q => hy.1 (q ▸ hmem)
      rw [e]
      unfold prevL
      rw [if_neg ne, ih y i hy.2 hi']
      cases i <;> simp
theorem mem_at {L : List Int} {i : Nat} (hi : i < L.length) : L.getD i 0 ∈ L := by rw [List.getD_eq_getElem?_getD, List.getElem?_eq_getElem hi]; exact List.getElem_mem hi
theorem before_at {L : List Int} (hn : L.Nodup) {j : Nat} (hj : j < L.length) : before L (L.getD j 0) = if 0 < j then (L.getD (j - 1) 0, true) else (0, false) := by
  unfold before
  have hm := mem_at hj
  cases L with
  | nil => simp at hj
  | cons y ys =>
    cases j with
    | zero => rw [if_neg (fun q => q.2 rfl), if_neg (by omega)]
    | succ j =>
      have hy := (List.nodup_cons.1 hn)
      have e : (y :: ys).getD (j + 1) 0 = ys.getD j 0 := rfl
      have hj' : j < ys.length := by simpa using hj
      rw [if_pos ⟨hm, fun q => hy.1 (by
        have : ys.getD j 0 = y := q
        rw [← this]; exact mem_at hj')⟩, if_pos (by omega), prev_at _ _ _ hn hj, if_neg (by omega)]
theorem tail_at (L : List Int) : tail L = if 0 < L.length then (L.getD (L.length - 1) 0, true) else (0, false) := by
  unfold tail
  cases L with
  | nil => rfl
  | cons y ys =>
    rw [if_neg (by simp), if_pos (by simp)]
    congr 1
    rw [List.getLastD_eq_getLast?, List.getLast?_eq_getElem?, List.getD_eq_getElem?_getD, List.getElem?_eq_getElem (by simp)]
    simp
theorem QA.nodup (k : QA B w0 w a h s L) : L.Nodup := k.q.li.nodup
theorem QA.beforeE (k : QA B w0 w a h s L) {x z : Int} {b : Bool} (hx : before L x = (z, b)) : Calls Try.prog 24 #[(.pointer (some ⟨h.q, 0, none⟩)), (.int .i64 x)] w (fun e w' => e = .returned (.tuple #[.int .i64 z, .bool b]) ∧ QA B w0 w' a h s L ∧ Chg (fun _ => False) w w') :=
  (before_calls k.q x).mono fun e w1 ⟨h1, h2⟩ => by
    rw [hx] at h1
    exact ⟨h1, k.fresh h2, h2⟩
theorem pushL_len (L : List Int) (x : Int) : (pushL L x).1.length ≤ L.length + 1 := by
  unfold pushL
  split
  · split
    · exact Nat.le_succ _
    · exact Nat.le_refl _
  · exact Nat.le_succ _
theorem remL_len (L : List Int) (x : Int) : (remL L x).1.length ≤ L.length + 1 := by
  unfold remL
  split
  · exact Nat.le_succ_of_le (List.length_erase_le)
  · exact Nat.le_succ _
theorem chunk_ok {p : Nat} (h : p < 40) : Chunk (64 * (p : Int)) ∧ I64 (64 * (p : Int)) := by unfold Chunk I64; omega
set_option maxHeartbeats 400000 in
theorem walk_walk (A : Option Addr) (c : Nat) (l : List (List Int)) (w : World) (hl : SRow w [.i64, .i64, .i64] A c l) :
    Calls Try.prog 6 #[.slice A l.length c] w fun e w' => e = .returned (.bool true) ∧ Below w.heap.size w w' := by
  have hlm : l.length ≤ 9223372036854775807 := Nat.le_trans hl.cap hl.most
  replace hl := Lib.hid hl
  obtain ⟨n, hn⟩ : ∃ n, l.length = n := ⟨_, rfl⟩
  rw [hn] at hlm ⊢
  replace hn := Lib.hid hn
  go_enter Try.func6, Try.ntmps6
  go_wp2_with fail
  refine (works_calls w).mono ?_
  rintro e wa ⟨rfl, hc⟩
  have CA := Lib.hid hc
  clear hc
  go_wp2_with fail
  refine (made_calls 2 wa 2 (by decide) small2.1 small2.2).mono ?_
  rintro e w1 ⟨a, r, rfl, T⟩
  replace T := Lib.hid T
  go_wp2_with fail
  refine (QA.start T.out).mono ?_
  rintro e w2 ⟨h, rfl, H0, -, -, -⟩
  replace H0 := Lib.hid H0
  clear T
  go_wp2_with fail
  go_loopg [7] 60 (fun g i wr => ∃ (k : Nat) (s : St) (L : List Int), i = .int .i64 k ∧ g = 60 - k ∧ k ≤ 60 ∧ k ≤ n ∧ L.length ≤ k ∧ Hid (QA wa.heap.size wa wr a h s L))
  case atStart => exact ⟨0, _, [], rfl, rfl, by omega, by omega, by simp, H0.out⟩
  case round =>
    obtain ⟨k, s, L, rfl, hg, hk, hkn, hL, H1⟩ := hrel
    obtain ⟨wo, rfl⟩ : ∃ wo : World, wo = wr := ⟨_, rfl⟩
    replace hg := Lib.hid hg
    replace hL := Lib.hid hL
    by_cases hlt : k < n ∧ k < 60
    · obtain ⟨h1, h2⟩ := hlt
      have h1' : (k : Int) < n := by omega
      have h2' : (k : Int) < 60 := by omega
      have CC : Chg (fun b => w.heap.size ≤ b) w wo := (CA.out.mono fun _ _ h => h.elim).trans (H1.out.here.chg.mono fun b _ hb => Nat.le_trans CA.out.size hb)
      have SR := hl.out.chg CC (Nat.le_refl _)
      obtain ⟨ad, rfl, d0, d1⟩ := SR.fields k (by rw [hn.out]; exact h1) (by decide)
      have f0 := d0 .i64 rfl
      have f1 := d1 0 .i64 rfl
      simp only [List.length_cons, List.length_nil, Nat.reduceAdd, Nat.zero_add] at f0 f1
      clear d0 d1 SR CC
      generalize (l.getD k []).getD 0 0 = kind at f0
      generalize (l.getD k []).getD 1 0 = x at f1
      obtain ⟨p, hp, p1, p2⟩ := small x 40 (by decide)
      replace p1 : (IntKind.u64.wrap x).tmod 40 = p := p1
      clear p2
      have ck := Lib.hid (chunk_ok hp)
      clear H0 CA hl
      by_cases e0 : kind = 1
      · have t0 : (kind == 1) = true := by rw [e0]; rfl
        clear e0
        have P := Lib.hid (H1.out.removeE (x := 64 * (p : Int)) (L' := (remL L (64 * (p : Int))).1) (err := (remL L (64 * (p : Int))).2) rfl)
        have z := remL_len L (64 * (p : Int))
        generalize (remL L (64 * (p : Int))).1 = L' at P z
        replace z := Lib.hid z
        generalize (remL L (64 * (p : Int))).2 = err at P
        go_wp2_with fail
        refine P.out.mono ?_
        rintro e w5 ⟨rfl, s', hnew, -⟩
        replace hnew := Lib.hid hnew
        clear P
        go_wp2_with fail
        go_roundg (60 - (k + 1))
        case measure => have := hg.out; omega
        case rel => exact ⟨k + 1, s', L', rfl, rfl, by omega, by omega, by have := hL.out; have := z.out; omega, hnew.out⟩
      · have t0 : (kind == 1) = false := by rw [beq_eq_false_iff_ne]; exact e0
        clear e0
        have P := Lib.hid (H1.out.pushE (x := 64 * (p : Int)) (L' := (pushL L (64 * (p : Int))).1) (err := (pushL L (64 * (p : Int))).2) rfl ck.out.1 ck.out.2)
        have z := pushL_len L (64 * (p : Int))
        generalize (pushL L (64 * (p : Int))).1 = L' at P z
        replace z := Lib.hid z
        generalize (pushL L (64 * (p : Int))).2 = err at P
        go_wp2_with fail
        refine P.out.mono ?_
        rintro e w5 ⟨rfl, s', hnew, -⟩
        replace hnew := Lib.hid hnew
        clear P
        go_wp2_with fail
        go_roundg (60 - (k + 1))
        case measure => have := hg.out; omega
        case rel => exact ⟨k + 1, s', L', rfl, rfl, by omega, by omega, by have := hL.out; have := z.out; omega, hnew.out⟩
    · have hend : ((n : Int) ≤ k) ∨ ((k : Int) < n ∧ ¬ (k : Int) < 60) := by omega
      clear hg H0 hlt
      obtain ⟨m, hm⟩ : ∃ m, L.length = m := ⟨_, rfl⟩
      have hm60 : m ≤ 60 := by have := hL.out; omega
      clear hL hk hkn
      have LC := Lib.hid (H1.out.listE hm (by omega))
      obtain ⟨x, is, hx⟩ : ∃ x is, tail L = (x, is) := ⟨_, _, rfl⟩
      have TC := Lib.hid (fun (W : World) (hq : QA wa.heap.size wa W a h s L) => hq.tailE hx)
      have NOD := Lib.hid H1.out.nodup
      have te := tail_at L
      rw [hm, hx] at te
      have TE := Lib.hid te
      replace hm := Lib.hid hm
      clear te hx
      have NB := Lib.hid (fun W A n c l (o : Mem.Own W wo.heap.size 3 .i64 (.slice A n c) l) => H1.out.off o)
      rcases hend with he | ⟨he, he2⟩ <;>
      (go_wp2_with fail
       refine LC.out.mono ?_
       rintro e w5 ⟨A2, c2, rfl, O5, H2, -⟩
       have H2' := Lib.hid H2
       have S5 := Lib.hid O5.sl
       clear H2 O5 LC NB
       go_wp2_with fail
       refine (TC.out w5 H2'.out).mono ?_
       rintro e w6 ⟨rfl, rfl⟩
       go_wp2_with fail
       go_loopg [10, 11, 12] m (fun g x ok i wr => ∃ (j : Nat) (z : Int) (b : Bool), i = .int .i64 ((j : Int) - 1) ∧ g = j ∧ j ≤ m ∧ x = .int .i64 z ∧ ok = .bool b ∧ Hid ((z, b) = if 0 < j then (L.getD (j - 1) 0, true) else (0, false)) ∧ Hid (QA wa.heap.size wa wr a h s L) ∧ Hid (Sl wr .i64 A2 L))
       case atStart => exact ⟨m, x, is, rfl, rfl, by omega, rfl, rfl, TE.out, H2'.out, S5.out⟩
       case round =>
         obtain ⟨j, z, b, rfl, hg, hj, rfl, rfl, HB, H3, HS⟩ := hrel
         obtain ⟨wo2, rfl⟩ : ∃ wo : World, wo = wr := ⟨_, rfl⟩
         replace hg := Lib.hid hg
         cases j with
         | zero =>
           have e1 : (((0 : Nat) : Int) - 1) = -1 := rfl
           have e2 := HB.out
           rw [if_neg (by decide)] at e2
           injection e2 with e3 e4
           subst e3 e4
           rw [e1]
           have F : Hid (Below w.heap.size w wo2) := ((CA.out.mono fun _ _ h => h.elim).trans (H3.out.here.chg.mono fun b _ hb => Nat.le_trans CA.out.size hb)).below (Nat.le_refl _) fun _ h => h
           clear e1 HB TE hj
           go_wp2_with fail
           go_ret
           exact ⟨rfl, F.out⟩
         | succ j =>
           have e1 : (((j + 1 : Nat) : Int) - 1) = j := by omega
           have e2 := HB.out
           rw [if_pos (by omega)] at e2
           injection e2 with e3 e4
           replace e3 : z = L.getD j 0 := e3
           subst e4
           obtain ⟨ad2, rfl, c2⟩ := HS.out j (by rw [hm.out]; omega)
           rw [← e3] at c2
           obtain ⟨y, b2, hy⟩ : ∃ y b2, before L z = (y, b2) := ⟨_, _, rfl⟩
           have P := Lib.hid (H3.out.beforeE hy)
           have by0 := before_at NOD.out (j := j) (by rw [hm.out]; omega)
           rw [← e3, hy] at by0
           have BY := Lib.hid by0
           rw [e1]
           have hj2 : (0 : Int) ≤ j := by omega
           clear e1 HB TE e3 hy by0
           go_wp2_with fail
           refine P.out.mono ?_
           rintro e w7 ⟨rfl, hnew, hc⟩
           have H4 := Lib.hid hnew
           have HS2 := Lib.hid (HS.out.chg hc fun _ _ => id)
           clear hnew hc P c2
           go_wp2_with fail
           go_roundg j
           case measure => have := hg.out; omega
           case rel => exact ⟨j, y, b2, rfl, rfl, by omega, rfl, rfl, BY.out, H4.out, HS2.out⟩)
end Go.Proofs.Ytfhffffdhlofgaa.Links
