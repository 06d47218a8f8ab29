/- Chapter 09's reference queue: put, Push, Insert, Remove, Tail, Before. -/
import Derived.Test.YtfhffffdhlofgaaRefQ
import Derived.Test.YtfhffffdhlofgaaLinksInserts
namespace Go.Proofs.Ytfhffffdhlofgaa.Links
open Go Go.RowKit Go.Proofs.Ytfhffffdhlofgaa.Mem Go.Proofs.Ytfhffffdhlofgaa.CodecPure Go.Proofs.Ytfhffffdhlofgaa.ArenaPure Go.Proofs.Ytfhffffdhlofgaa.Codec Go.Proofs.Ytfhffffdhlofgaa.Arena Go.Proofs.Ytfhffffdhlofgaa.Item
set_option linter.unusedVariables false
set_option maxRecDepth 100000
variable {C p : Nat} {w w' : World} {r : Ra} {s s' : St} {L L' : List Int}
/-- another list is stored -/
theorem RQ.store {W : World} {A : Option Addr} {n c : Nat} (k : RQ C w r p s L) (hc : Chg (fun b => w.heap.size ≤ b) w W) (ho : Mem.Own W C 3 .i64 (.slice A n c) L') (hn : n = L'.length) (hi : ∀ x ∈ L', I64 x) (hm : L'.length ≤ 1000000) :
    RQ C (W.setCell ⟨p, 1, none⟩ (.slice A n c)) r p s L' ∧ Chg (fun x => x = p) w (W.setCell ⟨p, 1, none⟩ (.slice A n c)) := by
  subst hn
  obtain ⟨A0, c0, h1, h2⟩ := k.v
  have lt : p < w.heap.size := Nat.lt_of_lt_of_le k.lo.2.2.2.1 k.lo.2.2.2.2
  have hb := hc.keep h1 (by omega)
  have CC : Chg (fun x => x = p) W (W.setCell ⟨p, 1, none⟩ (.slice A L'.length c)) := Chg.setCell _ _ _ rfl
  have C0 : Chg (fun x => x = p) w (W.setCell ⟨p, 1, none⟩ (.slice A L'.length c)) := (hc.mono fun b hb h => by omega).trans CC
  refine ⟨⟨k.ref.chg C0 (fun e => k.sep.1 e.symm) (fun e => k.sep.2.1 e.symm) (fun e => k.sep.2.2 e.symm), ⟨A, c, ?_, own_chg ho CC fun x hx => by rw [hx]; exact k.lo.2.2.2.1⟩, ⟨k.lo.1, k.lo.2.1, k.lo.2.2.1, k.lo.2.2.2.1, Nat.le_trans k.lo.2.2.2.2 C0.size⟩, k.sep, hi, hm⟩, C0⟩
  rw [setCell_row hb, setRow_heap W _ _ _ _ (0, 0) hb]; rfl
theorem mem_put {L : List Int} {x y : Int} {i : Nat} (h : y ∈ L.take i ++ [x] ++ L.drop i) : y = x ∨ y ∈ L := by
  rw [List.append_assoc, List.mem_append, List.mem_append, List.mem_singleton] at h
  rcases h with h | h | h
  · exact .inr (List.mem_of_mem_take h)
  · exact .inl h
  · exact .inr (List.mem_of_mem_drop h)
set_option maxHeartbeats 1000000 in
theorem rput_calls (k : RQ C w r p s L) (i : Nat) (hi : i ≤ L.length) (x : Int) (hx : I64 x) (hm : L.length < 1000000) : Calls Try.prog 62 #[(.pointer (some ⟨p, 0, none⟩)), (.int .i64 i), (.int .i64 x)] w fun e w' => e = .returned (.tuple #[]) ∧ RQ C w' r p (relay s (L.take i ++ [x] ++ L.drop i)) (L.take i ++ [x] ++ L.drop i) ∧ Chg (fun y => r.has y ∨ y = p) w w' := by
  obtain ⟨A, c, c0, c1, hb, ho⟩ := k.open
  obtain ⟨n, hn⟩ : ∃ n, L.length = n := ⟨_, rfl⟩
  obtain ⟨q, hq⟩ : ∃ q, i + q = n := ⟨n - i, by omega⟩
  obtain ⟨S1, d1, run1, sl1, nil1⟩ := slice_to Try.underlying30 elem_int ho i hi
  obtain ⟨S2, d2, run2, sl2, nil2⟩ := slice_from Try.underlying30 elem_int ho i q (by omega)
  rw [hn] at c1 run1 run2 hb hm hi
  have lt : p < w.heap.size := Nat.lt_of_lt_of_le k.lo.2.2.2.1 k.lo.2.2.2.2
  have ST := Lib.hid (fun (W : World) (A' : Option Addr) (n' c' : Nat) => k.store (W := W) (A := A') (n := n') (c := c') (L' := L.take i ++ [x] ++ L.drop i))
  have t1 : (L.take i).length = i := by rw [List.length_take]; omega
  have t2 : (L.drop i).length = q := by rw [List.length_drop]; omega
  have tl : (L.take i ++ [x] ++ L.drop i).length = n + 1 := by rw [List.length_append, List.length_append, t1, t2, List.length_singleton]; omega
  have IX : Hid (∀ y ∈ L.take i ++ [x] ++ L.drop i, I64 y) := fun y hy => by
    rcases mem_put hy with rfl | hy
    · exact hx
    · exact k.i64 y hy
  replace sl1 := Lib.hid sl1
  replace sl2 := Lib.hid sl2
  replace nil1 := Lib.hid nil1
  replace nil2 := Lib.hid nil2
  replace t1 := Lib.hid t1
  replace t2 := Lib.hid t2
  replace tl := Lib.hid tl
  replace hn := Lib.hid hn
  replace hq := Lib.hid hq
  replace hb := Lib.hid hb
  have hqm : i + q ≤ 1000000 := by rw [hq.out]; omega
  clear ho hx
  replace c0 := Lib.hid c0
  have lC := Lib.hid k.lo.2.2.2.2
  clear k
  go_enter Try.func62, Try.ntmps62
  go_wp2_with (first
    | (at_builtin; refine wpList_app rfl _ _ 30 rfl w.heap.size 3 .i64 8 Try.underlying30 infoInt _ [] rfl (Mem.Own.lit w 3 .i64 [] (show 0 ≤ maxLen by decide)) S1 _ d1 (L.take i) rfl t1.out (sl1.out.chg (Chg.alloc (fun _ => False) w (.cells #[] 3)) (fun _ _ => id)) nil1.out (by unfold maxLen; simp; omega) (by simp; omega) (by simp) ?_
       intro A6 c6 n6 w6 hn6 hown6 hchg6
       obtain rfl : i = n6 := (by rw [hn6]; simp)
       have O6 : Hid (Mem.Own w6 w.heap.size 3 .i64 (.slice A6 i c6) (L.take i)) := hown6
       have K6 : Hid (Chg (fun b => w.heap.size ≤ b) w w6) := (Chg.alloc _ w _).trans hchg6
       clear hn6 hown6 hchg6)
    | (at_builtin; refine wpList_app rfl _ _ 30 rfl w.heap.size 3 .i64 8 Try.underlying30 infoInt _ (L.take i) rfl (O6.out.chg (Chg.alloc (fun _ => False) w6 (.cells #[.int .i64 x] 3)) (fun _ _ => id)) (some ⟨w6.heap.size, 0, none⟩) 1 1 [x] rfl rfl (sl_lit w6 .i64 [x] 3 (0, 0)) (fun e => by cases e) (by rw [t1.out]; unfold maxLen; omega) (by rw [t1.out]; omega) (by have := K6.out.size; simp; omega) ?_
       intro A7 c7 n7 w7 hn7 hown7 hchg7
       obtain rfl : n7 = i + 1 := (by rw [hn7, t1.out])
       have O7 : Hid (Mem.Own w7 w.heap.size 3 .i64 (.slice A7 (i + 1) c7) (L.take i ++ [x])) := hown7
       have K7 : Hid (Chg (fun b => w.heap.size ≤ b) w w7) := K6.out.trans ((Chg.alloc _ w6 _).trans hchg7)
       have g1 : w7.cell? ⟨p, 1, none⟩ = some (.slice A n c) := K7.out.cell c1 (show ¬ w.heap.size ≤ p by omega)
       clear hn7 hown7 hchg7)
    | (at_builtin; refine wpList_app rfl _ _ 30 rfl w.heap.size 3 .i64 8 Try.underlying30 infoInt _ _ rfl O7.out S2 _ d2 (L.drop i) rfl t2.out (sl2.out.later K7.out (Nat.le_refl _)) nil2.out (by rw [List.length_append, t1.out]; unfold maxLen; simp; omega) (by rw [List.length_append, t1.out]; simp; omega) (by exact K7.out.size) ?_
       intro A8 c8 n8 w8 hn8 hown8 hchg8
       obtain rfl : n8 = n + 1 := (by rw [hn8, List.length_append, t1.out, List.length_singleton]; have := hq.out; omega)
       have O8 : Hid (Mem.Own w8 w.heap.size 3 .i64 (.slice A8 (n + 1) c8) (L.take i ++ [x] ++ L.drop i)) := hown8
       have K8 : Hid (Chg (fun b => w.heap.size ≤ b) w w8) := K7.out.trans hchg8
       have hb8 := K8.out.keep hb.out (show ¬ w.heap.size ≤ p by omega)
       have g2 : w8.cell? ⟨p, 1, none⟩ = some (.slice A n c) := by rw [blk_cell hb8]; rfl
       have g3 := blk_frozen hb8 1
       clear hn8 hown8 hchg8 hb8))
  obtain ⟨k9, C9⟩ := ST.out w8 A8 (n + 1) c8 K8.out (O8.out.mono lC.out) tl.out.symm IX.out (by rw [tl.out]; omega)
  have LC := Lib.hid (rlay_calls k9)
  replace C9 := Lib.hid C9
  clear k9 g1 g2 g3 run1 run2
  refine LC.out.mono ?_
  rintro e w9 ⟨rfl, k10, hc10⟩
  have F : Hid (RQ C w9 r p (relay s (L.take i ++ [x] ++ L.drop i)) (L.take i ++ [x] ++ L.drop i) ∧ Chg (fun y => r.has y ∨ y = p) w w9) := ⟨k10, (C9.out.mono fun _ _ h => .inr h).trans (hc10.mono fun _ _ h => .inl h)⟩
  clear k10 hc10 LC
  go_wp2_with fail
  go_end0
  exact ⟨rfl, F.out⟩
/-- an act's answer, and how it leaves the queue -/
def RQok (C : Nat) (w : World) (r : Ra) (p : Nat) (q : St × List Int × Int) (e : Ending) (w' : World) : Prop :=
  e = .returned (.int .i64 q.2.2) ∧ RQ C w' r p q.1 q.2.1 ∧ Chg (fun y => r.has y ∨ y = p) w w'
def rpushed (s : St) (L : List Int) (x : Int) : St × List Int × Int :=
  if within s x 40 then if x ∈ L then (s, L, 4) else (relay s (x :: L), x :: L, 0) else (s, L, 1)
def rinserted (s : St) (L : List Int) (b x : Int) : St × List Int × Int :=
  if b ∈ L then if within s x 40 then if x ∈ L then (s, L, 4) else (relay s (ins b x L), ins b x L, 0) else (s, L, 1) else (s, L, 3)
def rremoved (s : St) (L : List Int) (x : Int) : St × List Int × Int :=
  if x ∈ L then (relay (unlink s x) (L.erase x), L.erase x, 0) else (s, L, 3)
theorem rpushed_eq (h : LI s L) {x : Int} (hap : within s x 40 → x ∉ L → ∀ y ∈ L, ArenaPure.Apart y x) : rpushed s L x = pushed s L x := by
  unfold rpushed pushed
  by_cases hw : within s x 40
  · rw [if_pos hw, if_pos hw]
    by_cases hm : x ∈ L
    · rw [if_pos hm, if_pos hm]
    · rw [if_neg hm, if_neg hm]
      have := relay_put (A := []) (C := L) h hw (hap hw hm)
      rw [show ([] : List Int) ++ x :: L = x :: L from rfl] at this
      rw [this]; rfl
  · rw [if_neg hw, if_neg hw]
theorem rinserted_eq (h : LI s L) {b x : Int} (hap : within s x 40 → x ∉ L → ∀ y ∈ L, ArenaPure.Apart y x) : rinserted s L b x = inserted s L b x := by
  unfold rinserted inserted insTail
  by_cases hb : b ∈ L
  · rw [if_pos hb, if_pos hb]
    by_cases hw : within s x 40
    · rw [if_pos hw, if_pos hw]
      by_cases hm : x ∈ L
      · rw [if_pos hm, if_pos hm]
      · rw [if_neg hm, if_neg hm]
        obtain ⟨A, D, hL, hA, h4, h5, h6, h7⟩ := split_at b L hb
        have e0 : L = (A ++ [b]) ++ D := by rw [hL]; simp
        have h' := h
        rw [e0] at h'
        have := relay_put h' hw (by rw [← e0]; exact hap hw hm)
        have el : (A ++ [b]).getLastD (-1) = b := by simp
        rw [el, ← h5] at this
        have e1 : ins b x L = A ++ [b] ++ x :: D := by rw [h4]; simp
        rw [e1, this]
    · rw [if_neg hw, if_neg hw]
  · rw [if_neg hb, if_neg hb]
theorem rremoved_eq (h : LI s L) (x : Int) : rremoved s L x = removed s L x := by
  unfold rremoved removed
  by_cases hm : x ∈ L
  · rw [if_pos hm, if_pos hm]
    obtain ⟨A, D, hL, hA, h4, h5, h6, h7⟩ := split_at x L hm
    have h' := h
    rw [hL] at h'
    have := relay_del h'
    rw [← h5, ← h6] at this
    rw [h7, this]
  · rw [if_neg hm, if_neg hm]
theorem ins_idx {b : Int} (hb : b ∈ L) (x : Int) : ins b x L = L.take (L.idxOf b + 1) ++ [x] ++ L.drop (L.idxOf b + 1) := by
  obtain ⟨A, D, hL, hA, h4, -⟩ := split_at b L hb
  have e : L.idxOf b = A.length := idx_eq hL hA
  rw [h4, e, hL]
  have e0 : A ++ b :: D = (A ++ [b]) ++ D := by simp
  rw [e0, List.take_left' (by simp), List.drop_left' (by simp)]
  simp
theorem erase_idx {x : Int} (hx : x ∈ L) : L.erase x = L.take (L.idxOf x) ++ L.drop (L.idxOf x + 1) := by
  obtain ⟨A, D, hL, hA, h4, h5, h6, h7⟩ := split_at x L hx
  have e : L.idxOf x = A.length := idx_eq hL hA
  have e0 : A ++ x :: D = (A ++ [x]) ++ D := by simp
  rw [h7, e, hL, List.take_left' rfl, e0, List.drop_left' (by simp)]
theorem rpush_calls (k : RQ C w r p s L) (x : Int) (hx : I64 x) (hm : L.length < 1000000) : Calls Try.prog 27 #[(.pointer (some ⟨p, 0, none⟩)), (.int .i64 x)] w (RQok C w r p (rpushed s L x)) := by
  have M := rmay_calls k x hx
  have K := Lib.hid k
  have PC : Hid (∀ W, RQ C W r p s L → Calls Try.prog 62 #[(.pointer (some ⟨p, 0, none⟩)), (.int .i64 0), (.int .i64 x)] W fun e w' => e = .returned (.tuple #[]) ∧ RQ C w' r p (relay s (x :: L)) (x :: L) ∧ Chg (fun y => r.has y ∨ y = p) W w') := fun W k => rput_calls k 0 (Nat.zero_le _) x hx hm
  unfold rpushed
  clear k hx hm
  by_cases hw : within s x 40
  · rw [if_pos hw] at M ⊢
    by_cases hn : x ∈ L
    · rw [if_pos hn] at M ⊢
      replace M := Lib.hid M
      clear hw hn
      go_enter Try.func27, Try.ntmps27
      go_wp2_with fail
      refine M.out.mono ?_
      rintro e w1 ⟨rfl, hc⟩
      have F : Hid (RQok C w r p (s, L, 4) (.returned (.int .i64 4)) w1) := ⟨rfl, K.out.fresh hc, hc.mono fun _ _ h => h.elim⟩
      clear hc
      go_wp2_with fail
      go_ret
      exact F.out
    · rw [if_neg hn] at M ⊢
      replace M := Lib.hid M
      clear hw hn
      go_enter Try.func27, Try.ntmps27
      go_wp2_with fail
      refine M.out.mono ?_
      rintro e w1 ⟨rfl, hc⟩
      have P1 := Lib.hid (PC.out w1 (K.out.fresh hc))
      replace hc := Lib.hid hc
      go_wp2_with fail
      refine P1.out.mono ?_
      rintro e w2 ⟨rfl, k2, hc2⟩
      have F : Hid (RQok C w r p (relay s (x :: L), x :: L, 0) (.returned (.int .i64 0)) w2) := ⟨rfl, k2, (hc.out.mono fun _ _ h => h.elim).trans hc2⟩
      clear k2 hc2
      go_wp2_with fail
      go_ret
      exact F.out
  · rw [if_neg hw] at M ⊢
    replace M := Lib.hid M
    clear hw
    go_enter Try.func27, Try.ntmps27
    go_wp2_with fail
    refine M.out.mono ?_
    rintro e w1 ⟨rfl, hc⟩
    have F : Hid (RQok C w r p (s, L, 1) (.returned (.int .i64 1)) w1) := ⟨rfl, K.out.fresh hc, hc.mono fun _ _ h => h.elim⟩
    clear hc
    go_wp2_with fail
    go_ret
    exact F.out
theorem rinsert_calls (k : RQ C w r p s L) (b x : Int) (hx : I64 x) (hm : L.length < 1000000) : Calls Try.prog 29 #[(.pointer (some ⟨p, 0, none⟩)), (.int .i64 b), (.int .i64 x)] w (RQok C w r p (rinserted s L b x)) := by
  have PL := rplace_calls k b
  have M := Lib.hid (fun W (k : RQ C W r p s L) => rmay_calls k x hx)
  have K := Lib.hid k
  unfold rinserted
  unfold placeL at PL
  by_cases hb : b ∈ L
  · rw [if_pos hb] at PL ⊢
    have lt := List.idxOf_lt_length_iff.2 hb
    have PC : Hid (∀ W, RQ C W r p s L → Calls Try.prog 62 #[(.pointer (some ⟨p, 0, none⟩)), (.int .i64 ((L.idxOf b : Int) + 1)), (.int .i64 x)] W fun e w' => e = .returned (.tuple #[]) ∧ RQ C w' r p (relay s (ins b x L)) (ins b x L) ∧ Chg (fun y => r.has y ∨ y = p) W w') := fun W k => by
      rw [ins_idx hb]
      exact rput_calls k (L.idxOf b + 1) (by omega) x hx hm
    replace PL := Lib.hid PL
    have jb : L.idxOf b < 1000000 := by omega
    generalize L.idxOf b = j at PL PC jb
    clear k hx hm hb lt
    by_cases hw : within s x 40
    · rw [if_pos hw]
      by_cases hn : x ∈ L
      · rw [if_pos hn]
        have M1 : Hid (∀ W, RQ C W r p s L → Calls Try.prog 61 #[(.pointer (some ⟨p, 0, none⟩)), (.int .i64 x)] W fun e w' => e = .returned (.int .i64 4) ∧ Chg (fun _ => False) W w') := fun W k => by have := M.out W k; rw [if_pos hw, if_pos hn] at this; exact this
        clear hw hn M
        go_enter Try.func29, Try.ntmps29
        go_wp2_with fail
        refine PL.out.mono ?_
        rintro e w1 ⟨rfl, hc⟩
        have K1 := Lib.hid (K.out.fresh hc)
        replace hc := Lib.hid hc
        go_wp2_with fail
        refine (M1.out w1 K1.out).mono ?_
        rintro e w2 ⟨rfl, hc2⟩
        have F : Hid (RQok C w r p (s, L, 4) (.returned (.int .i64 4)) w2) := ⟨rfl, K1.out.fresh hc2, (hc.out.trans hc2).mono fun _ _ h => h.elim⟩
        clear hc2
        go_wp2_with fail
        go_ret
        exact F.out
      · rw [if_neg hn]
        have M1 : Hid (∀ W, RQ C W r p s L → Calls Try.prog 61 #[(.pointer (some ⟨p, 0, none⟩)), (.int .i64 x)] W fun e w' => e = .returned (.int .i64 0) ∧ Chg (fun _ => False) W w') := fun W k => by have := M.out W k; rw [if_pos hw, if_neg hn] at this; exact this
        clear hw hn M
        go_enter Try.func29, Try.ntmps29
        go_wp2_with fail
        refine PL.out.mono ?_
        rintro e w1 ⟨rfl, hc⟩
        have K1 := Lib.hid (K.out.fresh hc)
        replace hc := Lib.hid hc
        go_wp2_with fail
        refine (M1.out w1 K1.out).mono ?_
        rintro e w2 ⟨rfl, hc2⟩
        have P1 := Lib.hid (PC.out w2 (K1.out.fresh hc2))
        replace hc2 := Lib.hid (hc.out.trans hc2)
        go_wp2_with fail
        refine P1.out.mono ?_
        rintro e w3 ⟨rfl, k3, hc3⟩
        have F : Hid (RQok C w r p (relay s (ins b x L), ins b x L, 0) (.returned (.int .i64 0)) w3) := ⟨rfl, k3, (hc2.out.mono fun _ _ h => h.elim).trans hc3⟩
        clear k3 hc3
        go_wp2_with fail
        go_ret
        exact F.out
    · rw [if_neg hw]
      have M1 : Hid (∀ W, RQ C W r p s L → Calls Try.prog 61 #[(.pointer (some ⟨p, 0, none⟩)), (.int .i64 x)] W fun e w' => e = .returned (.int .i64 1) ∧ Chg (fun _ => False) W w') := fun W k => by have := M.out W k; rw [if_neg hw] at this; exact this
      clear hw M
      go_enter Try.func29, Try.ntmps29
      go_wp2_with fail
      refine PL.out.mono ?_
      rintro e w1 ⟨rfl, hc⟩
      have K1 := Lib.hid (K.out.fresh hc)
      replace hc := Lib.hid hc
      go_wp2_with fail
      refine (M1.out w1 K1.out).mono ?_
      rintro e w2 ⟨rfl, hc2⟩
      have F : Hid (RQok C w r p (s, L, 1) (.returned (.int .i64 1)) w2) := ⟨rfl, K1.out.fresh hc2, (hc.out.trans hc2).mono fun _ _ h => h.elim⟩
      clear hc2
      go_wp2_with fail
      go_ret
      exact F.out
  · rw [if_neg hb] at PL ⊢
    replace PL := Lib.hid PL
    clear k hx hm hb
    go_enter Try.func29, Try.ntmps29
    go_wp2_with fail
    refine PL.out.mono ?_
    rintro e w1 ⟨rfl, hc⟩
    have F : Hid (RQok C w r p (s, L, 3) (.returned (.int .i64 3)) w1) := ⟨rfl, K.out.fresh hc, hc.mono fun _ _ h => h.elim⟩
    clear hc
    go_wp2_with fail
    go_ret
    exact F.out
theorem rtail_calls (k : RQ C w r p s L) : Calls Try.prog 30 #[(.pointer (some ⟨p, 0, none⟩))] w fun e w' => e = .returned (.tuple #[.int .i64 (tail L).1, .bool (tail L).2]) ∧ Chg (fun _ => False) w w' := by
  obtain ⟨A, c, c0, c1, -, ho⟩ := k.open
  have hs := ho.sl
  have hm := k.most
  rw [tail_at]
  clear k ho c0
  obtain ⟨n, hn⟩ : ∃ n, L.length = n := ⟨_, rfl⟩
  rw [hn] at c1 hm ⊢
  by_cases h0 : 0 < n
  · rw [if_pos h0]
    obtain ⟨q, hq⟩ : ∃ q, n = q + 1 := ⟨n - 1, by omega⟩
    obtain ⟨ad, rfl, e0⟩ := hs q (by omega)
    rw [show n - 1 = q from by omega]
    generalize L.getD q 0 = y at e0 ⊢
    have e1 : (n : Int) - 1 = q := by omega
    have e2 : ((n : Int) == 0) = false := by rw [beq_eq_false_iff_ne]; omega
    have e3 : (q : Int) < n := by omega
    replace hq := Lib.hid hq
    clear hs hn h0
    go_enter Try.func30, Try.ntmps30
    go_wp2_with fail
    go_quiet (fail)
    go_wp2_with fail
    go_ret2
    exact ⟨rfl, Chg.drewN _ _ _⟩
  · rw [if_neg h0]
    obtain rfl : n = 0 := by omega
    clear hs hn h0
    go_enter Try.func30, Try.ntmps30
    go_wp2_with fail
    go_ret2
    exact ⟨rfl, Chg.refl _ _⟩
end Go.Proofs.Ytfhffffdhlofgaa.Links
