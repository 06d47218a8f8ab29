/- The program's queue: put, Push, Insert, Remove, Tail, Before, Has, Len, New. -/
import Derived.Test.YtfhffffdhlofgaaLinks
namespace Go.Proofs.Ytfhffffdhlofgaa.Links
open Go Go.RowKit Go.Proofs.Ytfhffffdhlofgaa.Mem Go.Proofs.Ytfhffffdhlofgaa.CodecPure Go.Proofs.Ytfhffffdhlofgaa.ArenaPure Go.Proofs.Ytfhffffdhlofgaa.Codec Go.Proofs.Ytfhffffdhlofgaa.Arena Go.Proofs.Ytfhffffdhlofgaa.Item
set_option linter.unusedVariables false
set_option maxRecDepth 100000
variable {w w' : World} {a : Ar} {h : Qh} {s : St} {L : List Int}
theorem sp_own (s : St) (y v : Int) : (sp s y v).own = s.own := by
  unfold sp setPlace
  split <;> rfl
theorem hdr_range {s : St} {x : Int} (hx : within s x 40) : ¬ (x < 0 ∨ 1024 * (s.own.length : Int) < x) := by
  obtain ⟨_, h1, h2, _⟩ := hx
  omega
theorem itemSet1 {s : St} {x : Int} (hx : within s x 40) (v : Int) : (itemSet s x 1 v).1 = sp s (x + 4) v := by
  unfold itemSet
  rw [if_neg (by decide), if_neg (hdr_range hx), if_pos (by decide)]; rfl
theorem itemSet2 {s : St} {x : Int} (hx : within s x 40) (v : Int) : (itemSet s x 2 v).1 = sp s (x + 8) v := by
  unfold itemSet
  rw [if_neg (by decide), if_neg (hdr_range hx), if_pos (by decide)]; rfl
theorem itemGet1 {s : St} {x : Int} (hx : within s x 40) : itemGet s x 1 = place s (x + 4) := by
  unfold itemGet
  rw [if_neg (by decide), if_neg (hdr_range hx), if_pos (by decide)]; rfl
theorem itemGet2 {s : St} {x : Int} (hx : within s x 40) : itemGet s x 2 = place s (x + 8) := by
  unfold itemGet
  rw [if_neg (by decide), if_neg (hdr_range hx), if_pos (by decide)]; rfl
theorem j1_eq {s : St} {x v : Int} (hx : x = -1 ∨ within s x 40) : j1 s x v = if x = -1 then s else sp s (x + 8) v := by
  unfold j1
  by_cases e : x = -1
  · rw [if_pos e, if_pos e]
  · rw [if_neg e, if_neg e, itemSet2 (hx.resolve_left e)]
theorem j1_own {s : St} {x v : Int} (hx : x = -1 ∨ within s x 40) : (j1 s x v).own = s.own := by
  rw [j1_eq hx]
  split
  · rfl
  · exact sp_own _ _ _
theorem j2_eq {s : St} {x y : Int} (hx : x = -1 ∨ within s x 40) (hy : y = -1 ∨ within s y 40) : j2 s x y = if y = -1 then j1 s x y else sp (j1 s x y) (y + 4) x := by
  unfold j2
  by_cases e : y = -1
  · rw [if_pos e, if_pos e]
  · rw [if_neg e, if_neg e, itemSet1 ((within_own (j1_own hx) y 40).2 (hy.resolve_left e))]
theorem j2_own {s : St} {x y : Int} (hx : x = -1 ∨ within s x 40) (hy : y = -1 ∨ within s y 40) : (j2 s x y).own = s.own := by
  rw [j2_eq hx hy]
  split
  · exact j1_own hx
  · rw [sp_own]; exact j1_own hx
theorem join_put {s : St} {p x n : Int} (hp : p = -1 ∨ within s p 40) (hx : within s x 40) (hn : n = -1 ∨ within s n 40) (h0 : x ≠ -1) : j2 (j2 s p x) x n = putS s p x n := by
  have o1 := j2_own hp (.inr hx)
  rw [j2_eq (.inr ((within_own o1 x 40).2 hx)) (hn.imp id fun h => (within_own o1 n 40).2 h), j1_eq (.inr ((within_own o1 x 40).2 hx)), if_neg h0, j2_eq hp (.inr hx), if_neg h0, j1_eq hp]
  rfl
theorem join_del {s : St} {p x n : Int} (hp : p = -1 ∨ within s p 40) (hx : within s x 40) (hn : n = -1 ∨ within s n 40) : (itemSet (itemSet (j2 s p n) x 1 (-1)).1 x 2 (-1)).1 = delS s p x n := by
  have o1 := j2_own hp hn
  have hx1 := (within_own o1 x 40).2 hx
  rw [itemSet1 hx1, itemSet2 ((within_own (sp_own _ _ _) x 40).2 hx1), j2_eq hp hn, j1_eq hp]
  rfl
theorem last_ends {s : St} {A C : List Int} (hl : LI s (A ++ C)) : A.getLastD (-1) = -1 ∨ within s (A.getLastD (-1)) 40 := by
  rcases List.eq_nil_or_concat A with rfl | ⟨A', y, rfl⟩
  · exact .inl rfl
  · rw [List.concat_eq_append] at *
    have el : (A' ++ [y]).getLastD (-1) = y := by simp
    rw [el]
    exact .inr (hl.hdr y (by simp))
theorem head_ends {s : St} {A C : List Int} (hl : LI s (A ++ C)) : C.headD (-1) = -1 ∨ within s (C.headD (-1)) 40 := by
  cases C with
  | nil => exact .inl rfl
  | cons z C' => exact .inr (hl.hdr z (by simp))
theorem headD_put (A C : List Int) (x : Int) (hp : A.getLastD (-1) = -1 ↔ A = []) (h0 : x ≠ -1) (n : Int) : jf (jf ((A ++ C).headD (-1)) (A.getLastD (-1)) x) x n = (A ++ x :: C).headD (-1) := by
  unfold jf
  rw [if_neg h0]
  cases A with
  | nil => rw [if_pos (hp.2 rfl)]; rfl
  | cons y A' => rw [if_neg (fun e => by have := hp.1 e; cases this)]; rfl
theorem lastD_put (A C : List Int) (x p : Int) (hn : C.headD (-1) = -1 ↔ C = []) (h0 : x ≠ -1) : jl (jl ((A ++ C).getLastD (-1)) p x) x (C.headD (-1)) = (A ++ x :: C).getLastD (-1) := by
  unfold jl
  rw [if_neg h0]
  cases C with
  | nil => rw [if_pos (hn.2 rfl)]; simp
  | cons y C' => rw [if_neg (fun e => by have := hn.1 e; cases this)]; simp
theorem getLastD_mem (A : List Int) (hA : A ≠ []) : A.getLastD (-1) ∈ A := by
  rcases List.eq_nil_or_concat A with rfl | ⟨A', y, rfl⟩
  · exact absurd rfl hA
  · rw [List.concat_eq_append]
    have el : (A' ++ [y]).getLastD (-1) = y := by simp
    rw [el]; simp
theorem last_none {s : St} {A C : List Int} (hl : LI s (A ++ C)) : A.getLastD (-1) = -1 ↔ A = [] := by
  constructor
  · intro e
    rcases List.eq_nil_or_concat A with rfl | ⟨A', y, rfl⟩
    · rfl
    · rw [List.concat_eq_append] at *
      have el : (A' ++ [y]).getLastD (-1) = y := by simp
      rw [el] at e
      have := (hl.pl (x := y) (by simp)).2
      omega
  · rintro rfl; rfl
theorem head_none {s : St} {A C : List Int} (hl : LI s (A ++ C)) : C.headD (-1) = -1 ↔ C = [] := by
  cases C with
  | nil => simp
  | cons z C' =>
    have := (hl.pl (x := z) (by simp)).2
    simp; omega
theorem pl_i64 {x : Int} (h : Pl x) : I64 x := by unfold Pl at h; unfold I64; omega
theorem ends_i64 {s : St} (hs : Ok s) {x : Int} (h : x = -1 ∨ within s x 40) : I64 x := by
  rcases h with rfl | h
  · exact ⟨by decide, by decide⟩
  · exact pl_i64 (hdr_pl hs h).1
/-- one answer, an error; the queue is so now -/
def Qok (w : World) (a : Ar) (h : Qh) (s' : St) (L' : List Int) (err : Int) (e : Ending) (w' : World) : Prop :=
  e = .returned (.int .i64 err) ∧ QLies w' a h s' L' ∧ Chg (Q2 a h) w w'
theorem put_no (k : QLies w a h s L) (p x n : Int) (hx : I64 x) (hw : ¬ within s x 40) : Calls Try.prog 54 #[(.pointer (some ⟨h.q, 0, none⟩)), (.int .i64 p), (.int .i64 x), (.int .i64 n)] w (Qok w a h s L 1) := by
  have c0 := k.c0
  have K := Lib.hid k
  have RC := read_calls k.lies x 40 hx
  have e : readA s x 40 = ([], 1) := if_neg hw
  rw [e] at RC
  have RC := Lib.hid RC
  clear k hw e hx
  go_enter Try.func54, Try.ntmps54
  go_wp2_with fail
  refine RC.out.mono ?_
  rintro e w1 ⟨A1, c1, rfl, o1, k1⟩
  have R : Hid (Qok w a h s L 1 (.returned (.int .i64 1)) w1) := ⟨rfl, K.out.fresh k1, k1.mono fun _ _ h => h.elim⟩
  clear o1 k1
  go_wp2
  go_ret
  exact R.out
theorem put_twice (k : QLies w a h s L) (p x n : Int) (hx : x ∈ L) : Calls Try.prog 54 #[(.pointer (some ⟨h.q, 0, none⟩)), (.int .i64 p), (.int .i64 x), (.int .i64 n)] w (Qok w a h s L 4) := by
  have c0 := k.c0
  have K := Lib.hid k
  have hw := k.li.hdr x hx
  have RC := read_calls k.lies x 40 (pl_i64 (k.li.pl hx).1)
  have e : readA s x 40 = (got s x 40, 0) := if_pos hw
  rw [e] at RC
  have RC := Lib.hid RC
  have HX := Lib.hid hx
  clear k hw e hx
  go_enter Try.func54, Try.ntmps54
  go_wp2_with fail
  refine RC.out.mono ?_
  rintro e w1 ⟨A1, c1, rfl, o1, k1⟩
  have K1 := Lib.hid (K.out.fresh k1)
  have R : Hid (Qok w a h s L 4 (.returned (.int .i64 4)) w1) := ⟨rfl, K1.out, k1.mono fun _ _ h => h.elim⟩
  have lk := K1.out.look x
  rw [decide_eq_true HX.out] at lk
  have d3 := K1.out.c3
  generalize got s x 40 = l1
  clear o1 k1 c0
  go_wp2
  go_ret
  exact R.out
theorem put_ok {A C : List Int} (k : QLies w a h s (A ++ C)) (x : Int) (hw : within s x 40) (hap : ∀ y ∈ A ++ C, ArenaPure.Apart y x) :
    Calls Try.prog 54 #[(.pointer (some ⟨h.q, 0, none⟩)), (.int .i64 (A.getLastD (-1))), (.int .i64 x), (.int .i64 (C.headD (-1)))] w (Qok w a h (putS s (A.getLastD (-1)) x (C.headD (-1))) (A ++ x :: C) 0) := by
  have hs := k.li.ok
  have px := hdr_pl hs hw
  have h0 : x ≠ -1 := by omega
  have hp := last_ends k.li
  have hn := head_ends k.li
  have hni : x ∉ A ++ C := fun hm => by have := hap x hm; unfold ArenaPure.Apart at this; omega
  obtain ⟨L1, K1⟩ := put_seg k.li hw hap
  have E := join_put hp hw hn h0
  have EF := headD_put A C x (last_none k.li) h0 (C.headD (-1))
  have EL := lastD_put A C x (A.getLastD (-1)) (head_none k.li) h0
  have J1 := fun (W : World) (hl : Lies W a s) (hb : W.heap[h.q]? = some (.cells (qcells a h ((A ++ C).headD (-1)) ((A ++ C).getLastD (-1))).toArray 77 (0, 0))) => join_calls hl k.out _ _ (A.getLastD (-1)) x hb (ends_i64 hs hp) (pl_i64 px.1)
  have J2 := fun (W : World) (hl : Lies W a (j2 s (A.getLastD (-1)) x)) (hb : W.heap[h.q]? = some (.cells (qcells a h (jf ((A ++ C).headD (-1)) (A.getLastD (-1)) x) (jl ((A ++ C).getLastD (-1)) (A.getLastD (-1)) x)).toArray 77 (0, 0))) => join_calls hl k.out _ _ x (C.headD (-1)) hb (pl_i64 px.1) (ends_i64 hs hn)
  rw [E, EF, EL] at J2
  have F : Hid (∀ W, Lies W a (putS s (A.getLastD (-1)) x (C.headD (-1))) → W.heap[h.q]? = some (.cells (qcells a h ((A ++ x :: C).headD (-1)) ((A ++ x :: C).getLastD (-1))).toArray 77 (0, 0)) → MSet W h.m (x :: (A ++ C)) → Chg (Q2 a h) w W → Qok w a h (putS s (A.getLastD (-1)) x (C.headD (-1))) (A ++ x :: C) 0 (.returned (.int .i64 0)) W) := fun W hl hb hm hc => ⟨rfl, ⟨hl, L1, hb, hm.perm List.perm_middle.symm, k.out⟩, hc⟩
  have c0 := k.c0
  have RC := read_calls k.lies x 40 (pl_i64 px.1)
  have e : readA s x 40 = (got s x 40, 0) := if_pos hw
  rw [e] at RC
  have RC := Lib.hid RC
  have K := Lib.hid k
  have NI := Lib.hid hni
  have J1 := Lib.hid J1
  have J2 := Lib.hid J2
  generalize putS s (A.getLastD (-1)) x (C.headD (-1)) = s' at F J2 L1 K1 E ⊢
  generalize A.getLastD (-1) = p at *
  generalize C.headD (-1) = n at *
  clear k hw e hap hs px h0 hp hn hni L1 K1 E EF EL
  go_enter Try.func54, Try.ntmps54
  go_wp2_with fail
  refine RC.out.mono ?_
  rintro e w1 ⟨A1, c1, rfl, o1, k1⟩
  have K1 := Lib.hid (K.out.fresh k1)
  have C1 : Hid (Chg (Q2 a h) w w1) := k1.mono fun _ _ h => h.elim
  have lk := K1.out.look x
  rw [decide_eq_false NI.out] at lk
  have d3 := K1.out.c3
  generalize got s x 40 = l1
  clear o1 k1 c0
  go_wp2_with fail
  refine (J1.out w1 K1.out.lies K1.out.head).mono ?_
  rintro e w2 ⟨rfl, l2, b2, k2⟩
  have C2 : Hid (Chg (Q2 a h) w w2) := C1.out.trans (k2.mono fun i _ hi => hi.elim .inl fun e => .inr (.inl e))
  have M2 := Lib.hid (K1.out.set.chg k2 (fun e => e.elim K1.out.out.m.2.2 fun e => K1.out.out.qm e.symm))
  have JJ := Lib.hid (J2.out w2 l2 b2)
  clear l2 b2 k2 lk d3
  go_wp2_with fail
  refine JJ.out.mono ?_
  rintro e w3 ⟨rfl, l3, b3, k3⟩
  have C3 : Hid (Chg (Q2 a h) w w3) := C2.out.trans (k3.mono fun i _ hi => hi.elim .inl fun e => .inr (.inl e))
  have M3 := M2.out.chg k3 (fun e => e.elim K1.out.out.m.2.2 fun e => K1.out.out.qm e.symm)
  obtain ⟨w4, run4, M4, k4⟩ := M3.update Try.underlying75 Try.underlying3 x NI.out
  have d3 : w3.cell? ⟨h.q, 3, none⟩ = some (.map (some h.m)) := by rw [blk_cell b3]; rfl
  have R := Lib.hid (F.out w4 (l3.chg k4 (fun e => K1.out.out.m.1 e.symm) (fun e => K1.out.out.m.2.1 e.symm) fun b hb e => K1.out.out.m.2.2 (e ▸ hb)) (k4.keep b3 K1.out.out.qm) M4 (C3.out.trans (k4.mono fun i _ e => .inr (.inr e))))
  clear l3 b3 k3 M3 M4 k4
  go_wp2
  go_ret
  exact R.out
end Go.Proofs.Ytfhffffdhlofgaa.Links
