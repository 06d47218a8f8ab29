import Derived.Test.YtolpjgpimholcaaGi
import Derived.Test.YtolpjgpimholcaaGd
import Derived.Test.YtolpjgpimholcaaGc
/- What a table's acts answer, over lists alone. -/
namespace Go.Proofs.Ytolpjgpimholcaa.Assoc
open Go Go.RowKit Go.Proofs.Ytolpjgpimholcaa.Mem Go.Proofs.Ytolpjgpimholcaa.CodecPure Go.Proofs.Ytolpjgpimholcaa.ArenaPure Go.Proofs.Ytolpjgpimholcaa.Codec Go.Proofs.Ytolpjgpimholcaa.Arena Go.Proofs.Ytolpjgpimholcaa.Item Go.Proofs.Ytolpjgpimholcaa.Fnv
set_option linter.unusedVariables false
set_option maxRecDepth 100000
variable {B : Nat} {w0 w w' : World} {a : Ar} {t : Th} {n : Nat} {L : Nat → List Nat}
/-- a table of the call's own, in blocks from B on, whose buckets have these items -/
structure TE (B : Nat) (w0 w : World) (a : Ar) (t : Th) (n : Nat) (L : Nat → List Nat) : Prop where
  ex : ∃ s nx H, Here B w0 w a s ∧ TL w a t s nx n H L
  low : B ≤ t.b ∧ B ≤ t.h
theorem TE.fresh (k : TE B w0 w a t n L) (hc : Chg (fun _ => False) w w') : TE B w0 w' a t n L := by
  obtain ⟨s, nx, H, h1, h2⟩ := k.ex
  exact ⟨⟨s, nx, H, h1.fresh hc, h2.fresh hc⟩, k.low⟩
theorem TE.next {s s' : St} {nx' : Nat → Int} {H' : List Int} {L' : Nat → List Nat} (k : TE B w0 w a t n L) (hh : Here B w0 w a s) (h : TL w' a t s' nx' n H' L') (hc : Chg (T2 a t) w w') : TE B w0 w' a t n L' :=
  ⟨⟨s', nx', H', ⟨h.lies, hh.chg.trans (hc.mono fun x _ hx => by
    rcases hx with hx | rfl | rfl
    · exact hh.low.2.2 x hx
    · exact k.low.1
    · exact k.low.2), hh.low⟩, h⟩, k.low⟩
theorem TE.below (k : TE B w0 w a t n L) (hB : B ≤ w0.heap.size) : Below B w0 w := by
  obtain ⟨s, nx, H, h1, h2⟩ := k.ex
  exact h1.below hB
theorem TE.chg (k : TE B w0 w a t n L) : Chg (fun b => B ≤ b) w0 w := by
  obtain ⟨s, nx, H, h1, h2⟩ := k.ex
  exact h1.chg
theorem TE.pow (k : TE B w0 w a t n L) : Pow n := by
  obtain ⟨s, nx, H, h1, h2⟩ := k.ex
  exact h2.ti.pow
theorem TE.mem (k : TE B w0 w a t n L) : ∀ b, b < n → ∀ j ∈ L b, j < 30 ∧ hb n j = b := by
  obtain ⟨s, nx, H, h1, h2⟩ := k.ex
  exact h2.ti.mem
theorem TE.nodup (k : TE B w0 w a t n L) : ∀ b, b < n → (L b).Nodup := by
  obtain ⟨s, nx, H, h1, h2⟩ := k.ex
  exact h2.ti.nodup
theorem TE.len (k : TE B w0 w a t n L) {b : Nat} (hb : b < n) : (L b).length ≤ 30 := nodup_len 30 _ (k.nodup b hb) fun x hx => (k.mem b hb x hx).1
/-- an act's answer, and the table behind it -/
def TEnd (B : Nat) (w0 w : World) (a : Ar) (t : Th) (n : Nat) (L : Nat → List Nat) (v : Value) (e : Ending) (w' : World) : Prop := e = .returned v ∧ TE B w0 w' a t n L ∧ Chg (T2 a t) w w'
theorem TEnd.of_fresh {v : Value} {e : Ending} (k : TE B w0 w a t n L) (he : e = .returned v) (hc : Chg (fun _ => False) w w') : TEnd B w0 w a t n L v e w' := ⟨he, k.fresh hc, hc.mono fun _ _ h => h.elim⟩
def insB (L : Nat → List Nat) (n k : Nat) : Nat → List Nat := if k ∈ L (hb n k) then L else updL L (hb n k) (k :: L (hb n k))
def insA (L : Nat → List Nat) (n k : Nat) : Int := if k ∈ L (hb n k) then 4 else 0
theorem TE.insert (k : TE B w0 w a t n L) {x : Nat} (hx : x < 30) : Calls Try.prog 30 #[(.pointer (some ⟨t.b, 0, none⟩)), (.int .i64 (64 * (x : Int)))] w (TEnd B w0 w a t n (insB L n x) (.int .i64 (insA L n x))) := by
  obtain ⟨s, nx, H, h1, h2⟩ := k.ex
  unfold insB insA
  by_cases hm : x ∈ L (hb n x)
  · rw [if_pos hm, if_pos hm]
    exact (insert_twice h2 hx hm).mono fun e w' ⟨he, hc⟩ => .of_fresh k he hc
  · rw [if_neg hm, if_neg hm]
    exact (insert_new h2 hx hm).mono fun e w' ⟨he, h3, hc⟩ => ⟨he, k.next h1 h3 hc, hc⟩
def delB (L : Nat → List Nat) (n k : Nat) : Nat → List Nat := if k ∈ L (hb n k) then updL L (hb n k) ((L (hb n k)).erase k) else L
def delV (L : Nat → List Nat) (n k : Nat) : Value := if k ∈ L (hb n k) then .tuple #[.int .i64 (64 * (k : Int)), .int .i64 0] else .tuple #[.int .i64 0, .int .i64 3]
theorem erase_at {A C : List Nat} {k : Nat} (h : k ∉ A) : (A ++ k :: C).erase k = A ++ C := by
  rw [List.erase_append_right _ h, List.erase_cons_head]
theorem TE.delete (k : TE B w0 w a t n L) {x : Nat} (hx : x < 30) : Calls Try.prog 29 #[(.pointer (some ⟨t.b, 0, none⟩)), .string (keyS x)] w (TEnd B w0 w a t n (delB L n x) (delV L n x)) := by
  obtain ⟨s, nx, H, h1, h2⟩ := k.ex
  have hbn := hb_lt k.pow x
  unfold delB delV
  by_cases hm : x ∈ L (hb n x)
  · rw [if_pos hm, if_pos hm]
    obtain ⟨A, C, hL, hA⟩ := mem_split hm
    have he : (L (hb n x)).erase x = A ++ C := by rw [hL]; exact erase_at hA
    rw [he]
    rcases List.eq_nil_or_concat A with rfl | ⟨A', j, rfl⟩
    · exact (delete_first h2 hx hL).mono fun e w' ⟨he, h3, hc⟩ => ⟨he, k.next h1 h3 hc, hc⟩
    · rw [List.concat_eq_append] at *
      have hL2 : L (hb n x) = A' ++ j :: x :: C := by rw [hL]; simp
      have hj := (k.mem _ hbn j (by rw [hL2]; simp)).1
      rw [show A' ++ [j] ++ C = A' ++ j :: C by simp]
      exact (delete_mid h2 hj hx hL2).mono fun e w' ⟨he, h3, hc⟩ => ⟨he, k.next h1 h3 hc, hc⟩
  · rw [if_neg hm, if_neg hm]
    refine (delete_none h2 (keyS x) (keyS_size hx) ?_).mono fun e w' ⟨he, hc⟩ => .of_fresh k he hc
    rw [show hbS n (keyS x) = hb n x from rfl, fnd_at (fun j hj => (k.mem _ hbn j hj).1) hx, if_neg hm]
def finV (L : Nat → List Nat) (n k : Nat) : Value := if k ∈ L (hb n k) then .tuple #[.int .i64 (64 * (k : Int)), .bool true] else .tuple #[.int .i64 0, .bool false]
theorem TE.find (k : TE B w0 w a t n L) {x : Nat} (hx : x < 30) : Calls Try.prog 32 #[(.pointer (some ⟨t.b, 0, none⟩)), .string (keyS x)] w fun e w' => e = .returned (finV L n x) ∧ Chg (fun _ => False) w w' := by
  obtain ⟨s, nx, H, h1, h2⟩ := k.ex
  have hbn := hb_lt k.pow x
  have F := Find_calls h2 (keyS x) (keyS_size hx)
  rw [show hbS n (keyS x) = hb n x from rfl] at F
  unfold finV
  by_cases hm : x ∈ L (hb n x)
  · rw [if_pos hm]
    obtain ⟨A, C, -, -, hf⟩ := fnd_in (fun j hj => (k.mem _ hbn j hj).1) hx hm
    rw [hf] at F
    exact F
  · rw [if_neg hm]
    rw [fnd_at (fun j hj => (k.mem _ hbn j hj).1) hx, if_neg hm] at F
    exact F
theorem TE.bucket (k : TE B w0 w a t n L) {b : Nat} (hb : b < n) : Calls Try.prog 33 #[(.pointer (some ⟨t.b, 0, none⟩)), (.int .i64 b)] w (BEnd w (pls (L b))) := by
  obtain ⟨s, nx, H, h1, h2⟩ := k.ex
  exact bucket_in h2 hb
theorem TE.size (k : TE B w0 w a t n L) : Calls Try.prog 34 #[(.pointer (some ⟨t.b, 0, none⟩))] w fun e w' => e = .returned (.tuple #[.int .i64 n, .int .i64 (total L n)]) ∧ Dr w w' := by
  obtain ⟨s, nx, H, h1, h2⟩ := k.ex
  exact size_calls h2.tm
theorem TE.gets (k : TE B w0 w a t n L) {b : Nat} (hb : b < n) (x : Nat) (C A : List Nat) (hx : L b = A ++ x :: C) : Calls Try.prog 23 #[(.pointer (some ⟨a.g, 0, none⟩)), (.int .i64 (64 * (x : Int))), (.int .i64 0)] w (Ans2 w (headI C) 0) := by
  obtain ⟨s, nx, H, h1, h2⟩ := k.ex
  exact h2.gets hb w x C A (Chg.refl _ _) hx
/-- a table begun behind Laid -/
theorem TE.start {w1 : World} {r : Ra} (T : Two w.heap.size w w1 a r (laidS 30) (laidS 30)) {n : Nat} (hn : Pow n) : Calls Try.prog 27 #[(.pointer (some ⟨a.g, 0, none⟩)), (.int .i64 n)] w1 fun e w' => ∃ t : Th, e = .returned (.tuple #[(.pointer (some ⟨t.b, 0, none⟩)), .int .i64 0]) ∧ TE w.heap.size w w' a t n (fun _ => []) ∧ Chg (fun _ => False) w1 w' :=
  (new_ok T.here.lies ns_laid hn).mono fun e w2 ⟨t, h1, h2, h3, h4, h5⟩ => by
    have z := T.here.chg.size
    exact ⟨t, h1, ⟨⟨_, _, _, T.here.fresh h3, h2⟩, ⟨by omega, by omega⟩⟩, h3⟩
theorem t2_lt (k : TE B w0 w a t n L) : ∀ x, T2 a t x → x < w.heap.size := by
  obtain ⟨s, nx, H, h1, h2⟩ := k.ex
  intro x hx
  rcases hx with hx | rfl | rfl
  · exact h1.pb_lt x hx
  · exact blk_lt h2.tm.head
  · exact blk_lt h2.tm.row
theorem hb_one (k : Nat) : hb 1 k = 0 := by
  unfold hb
  rw [show ((1 : Nat) : Int) = 1 from rfl, Int.emod_one]; rfl
def U1 : Nat → List Nat := insB (fun _ => []) 1 0
def U2 : Nat → List Nat := insB U1 1 1
def U3 : Nat → List Nat := delB U2 1 1
theorem u1 : U1 0 = [0] := by unfold U1 insB; rw [hb_one, if_neg (by simp), updL_at]
theorem u2 : U2 0 = [1, 0] := by unfold U2 insB; rw [hb_one, u1, if_neg (by simp), updL_at]
theorem u3 : U3 0 = [0] := by unfold U3 delB; rw [hb_one, u2, if_pos (by simp), updL_at]; rfl
theorem uA1 : insA (fun _ => []) 1 0 = 0 := by unfold insA; rw [if_neg (by simp)]
theorem uA2 : insA U1 1 1 = 0 := by unfold insA; rw [hb_one, u1, if_neg (by simp)]
theorem uA3 : insA U2 1 0 = 4 := by unfold insA; rw [hb_one, u2, if_pos (by simp)]
theorem uB3 : insB U2 1 0 = U2 := by unfold insB; rw [hb_one, u2, if_pos (by simp)]
theorem uF : finV U2 1 0 = .tuple #[.int .i64 0, .bool true] := by unfold finV; rw [hb_one, u2, if_pos (by simp)]; rfl
theorem uD1 : delV U2 1 1 = .tuple #[.int .i64 64, .int .i64 0] := by unfold delV; rw [hb_one, u2, if_pos (by simp)]; rfl
theorem uD2 : delV U3 1 1 = .tuple #[.int .i64 0, .int .i64 3] := by unfold delV; rw [hb_one, u3, if_neg (by simp)]
theorem uB4 : delB U3 1 1 = U3 := by unfold delB; rw [hb_one, u3, if_neg (by simp)]
theorem uT : total U3 1 = 1 := by show 0 + (U3 0).length = 1; rw [u3]; rfl
theorem small0 : (IntKind.u64.wrap 0).tmod 30 = ((0 : Nat) : Int) := by decide
theorem small1 : (IntKind.u64.wrap 1).tmod 30 = ((1 : Nat) : Int) := by decide
set_option maxHeartbeats 4000000 in
theorem works10_calls (w : World) : Calls Try.prog 25 #[] w fun e w' => e = .returned (.bool true) ∧ Chg (fun _ => False) w w' := by
  go_enter Try.func25, Try.ntmps25
  go_wp2_with fail
  refine (laid_calls w).mono ?_
  rintro e w1 ⟨a, r, rfl, T⟩
  have HL := Lib.hid T.here.lies
  replace T := Lib.hid T
  go_wp2_with fail
  refine (TE.start T.out (n := 1) (.inl rfl)).mono ?_
  rintro e w2 ⟨t, rfl, K0, hc⟩
  have C2 := Lib.hid K0.chg
  replace K0 := Lib.hid K0
  have P0 := Lib.hid (fun W => place10_calls 0 W 0 (by decide) small0)
  have P1 := Lib.hid (fun W => place10_calls 1 W 1 (by decide) small1)
  have S0 := Lib.hid (fun W => keys_calls 0 W 0 (by decide) small0)
  have S1 := Lib.hid (fun W => keys_calls 1 W 1 (by decide) small1)
  clear hc T
  go_wp2_with fail
  refine (P0.out _).mono ?_
  rintro e wq ⟨rfl, rfl⟩
  have Q : Calls Try.prog 30 #[(.pointer (some ⟨t.b, 0, none⟩)), (.int .i64 (64 * ((0 : Nat) : Int)))] wq (TEnd w.heap.size w wq a t 1 U1 (.int .i64 0)) := by
    have := K0.out.insert (x := 0) (by decide)
    rw [uA1] at this
    exact this
  replace Q := Lib.hid Q
  go_wp2_with fail
  refine Q.out.mono ?_
  rintro e w3 ⟨rfl, hk, -⟩
  have K1 := Lib.hid hk
  clear hk Q K0
  go_wp2_with fail
  refine (P1.out _).mono ?_
  rintro e wq ⟨rfl, rfl⟩
  have Q : Calls Try.prog 30 #[(.pointer (some ⟨t.b, 0, none⟩)), (.int .i64 (64 * ((1 : Nat) : Int)))] wq (TEnd w.heap.size w wq a t 1 U2 (.int .i64 0)) := by
    have := K1.out.insert (x := 1) (by decide)
    rw [uA2] at this
    exact this
  replace Q := Lib.hid Q
  go_wp2_with fail
  refine Q.out.mono ?_
  rintro e w4 ⟨rfl, hk, -⟩
  have K2 := Lib.hid hk
  clear hk Q K1
  go_wp2_with fail
  refine (P0.out _).mono ?_
  rintro e wq ⟨rfl, rfl⟩
  have Q : Calls Try.prog 30 #[(.pointer (some ⟨t.b, 0, none⟩)), (.int .i64 (64 * ((0 : Nat) : Int)))] wq (TEnd w.heap.size w wq a t 1 U2 (.int .i64 4)) := by
    have := K2.out.insert (x := 0) (by decide)
    rw [uA3, uB3] at this
    exact this
  replace Q := Lib.hid Q
  go_wp2_with fail
  refine Q.out.mono ?_
  rintro e w5 ⟨rfl, hk, -⟩
  have K3 := Lib.hid hk
  clear hk Q K2
  go_wp2_with fail
  have Q := K3.out.bucket (b := 0) (by decide)
  rw [u2] at Q
  replace Q := Lib.hid Q
  refine Q.out.mono ?_
  rintro e w6 ⟨A6, c6, rfl, ho, hc⟩
  have O6 := Lib.hid ho
  have K6 := Lib.hid (K3.out.fresh hc)
  have L6 := Lib.hid (t2_lt K3.out)
  clear ho hc Q K3
  go_wp2_with fail
  refine (S0.out _).mono ?_
  rintro e w7 ⟨rfl, hc⟩
  have K7 := Lib.hid (K6.out.fresh hc)
  have O7 := Lib.hid (Mem.Own.chg O6.out hc fun _ _ h => h.elim)
  clear hc K6 O6
  have Q := K7.out.find (x := 0) (by decide)
  rw [uF] at Q
  replace Q := Lib.hid Q
  go_wp2_with fail
  refine Q.out.mono ?_
  rintro e w8 ⟨rfl, hc⟩
  have K8 := Lib.hid (K7.out.fresh hc)
  have O8 := Lib.hid (Mem.Own.chg O7.out hc fun _ _ h => h.elim)
  clear hc K7 O7 Q
  go_wp2_with fail
  refine (S1.out _).mono ?_
  rintro e w9 ⟨rfl, hc⟩
  have K9 := Lib.hid (K8.out.fresh hc)
  have O9 := Lib.hid (Mem.Own.chg O8.out hc fun _ _ h => h.elim)
  clear hc K8 O8
  have Q := K9.out.delete (x := 1) (by decide)
  rw [uD1] at Q
  replace Q : Hid (Calls Try.prog 29 #[(.pointer (some ⟨t.b, 0, none⟩)), .string (keyS 1)] w9 (TEnd w.heap.size w w9 a t 1 U3 (.tuple #[.int .i64 64, .int .i64 0]))) := Q
  go_wp2_with fail
  refine Q.out.mono ?_
  rintro e w10 ⟨rfl, hk, hc⟩
  have K10 := Lib.hid hk
  have O10 := Lib.hid (Mem.Own.chg O9.out hc fun g e h => by have := (World.ownsRow.lt O9.out g e).1; have := L6.out _ h; omega)
  clear hc hk K9 O9 Q
  go_wp2_with fail
  refine (S1.out _).mono ?_
  rintro e w11 ⟨rfl, hc⟩
  have K11 := Lib.hid (K10.out.fresh hc)
  have O11 := Lib.hid (Mem.Own.chg O10.out hc fun _ _ h => h.elim)
  clear hc K10 O10
  have Q := K11.out.delete (x := 1) (by decide)
  rw [uD2, uB4] at Q
  replace Q := Lib.hid Q
  go_wp2_with fail
  refine Q.out.mono ?_
  rintro e w12 ⟨rfl, hk, hc⟩
  have K12 := Lib.hid hk
  have O12 := Lib.hid (Mem.Own.chg O11.out hc fun g e h => by have := (World.ownsRow.lt O11.out g e).1; have := L6.out _ h; omega)
  clear hc hk K11 O11 Q
  go_wp2_with fail
  refine (new_bad a.g 3 (by decide) (by decide) w12).mono ?_
  rintro e wq ⟨rfl, rfl⟩
  go_wp2_with fail
  have Q := K12.out.size
  rw [uT] at Q
  replace Q := Lib.hid Q
  refine Q.out.mono ?_
  rintro e w13 ⟨rfl, hd⟩
  have K13 := Lib.hid (K12.out.fresh (hd.chg _))
  have O13 := Lib.hid (Mem.Own.chg O12.out (hd.chg (fun _ => False)) fun _ _ h => h.elim)
  clear hd Q K12 O12
  go_wp2_with fail
  have sA : Sl (w13.alloc (.cells (nums .i64 [64, 0]).toArray 3)) .i64 A6 (pls [1, 0]) := O13.out.sl.chg (Chg.alloc (fun _ => False) _ _) fun _ _ => id
  have sB := sl_lit w13 .i64 [64, 0] 3 (0, 0)
  have Z := same06_calls (c := c6) (d := 2) (l := [64, 0]) sA sB (by decide)
  refine Z.mono ?_
  rintro e w14 ⟨rfl, hd⟩
  have F : Hid (Chg (fun _ => False) w w14) := ((K13.out.chg.mono fun _ hl hb => by omega).trans (Chg.alloc _ _ (.cells (nums .i64 [64, 0]).toArray 3))).trans (hd.chg _)
  clear sA sB Z hd
  go_wp2_with fail
  go_ret
  exact ⟨rfl, F.out⟩
end Go.Proofs.Ytolpjgpimholcaa.Assoc

/- The walk of chapter 10's AssocThreads. -/
namespace Go.Proofs.Ytolpjgpimholcaa.Assoc
open Go Go.RowKit Go.Proofs.Ytolpjgpimholcaa.Mem Go.Proofs.Ytolpjgpimholcaa.CodecPure Go.Proofs.Ytolpjgpimholcaa.ArenaPure Go.Proofs.Ytolpjgpimholcaa.Codec Go.Proofs.Ytolpjgpimholcaa.Arena Go.Proofs.Ytolpjgpimholcaa.Item Go.Proofs.Ytolpjgpimholcaa.Fnv
set_option linter.unusedVariables false
set_option maxRecDepth 100000
theorem pow_sh (x : Nat) (hx : x < 7) : ∃ p : Nat, wrap64 ((2 : Int) ^ x) = (p : Int) ∧ Pow p := by
  have key : ∀ y : Fin 7, wrap64 ((2 : Int) ^ y.val) = ((2 ^ y.val : Nat) : Int) ∧ Pow ((2 ^ y.val : Nat) : Int) := by decide +kernel
  exact ⟨2 ^ x, key ⟨x, hx⟩⟩
theorem add_next (ad : Addr) (j : Nat) : ad.add (j + 1) = ⟨ad.block, ad.off + (j + 1), none⟩ := by unfold Addr.add; rw [if_neg (by omega)]
theorem at_split (l : List Nat) (i : Nat) (hi : i < l.length) : l = l.take i ++ l.getD i 0 :: l.drop (i + 1) := by
  have h := List.take_append_drop i l
  rw [List.drop_eq_getElem_cons hi] at h
  rw [List.getD_eq_getElem?_getD, List.getElem?_eq_getElem hi]
  exact h.symm
theorem headI_drop (l : List Nat) (i : Nat) : headI (l.drop i) = if i < l.length then 64 * ((l.getD i 0 : Nat) : Int) else -1 := by
  by_cases h : i < l.length
  · rw [if_pos h, List.drop_eq_getElem_cons h, List.getD_eq_getElem?_getD, List.getElem?_eq_getElem h]; rfl
  · rw [if_neg h, List.drop_eq_nil_of_le (by omega)]; rfl
set_option maxHeartbeats 1000000 in
theorem threads_walk (n0 : Int) (A : Option Addr) (c : Nat) (l : List (List Int)) (w : World) (wf0 : (Lit.int .i64 n0).wf = true) (hl : SRow w [.i64, .i64, .i64] A c l) :
    Calls Try.prog 8 #[(.int .i64 n0), .slice A l.length c] w fun e w' => e = .returned (.bool true) ∧ Below w.heap.size w w' := by
  have hlm : l.length ≤ 9223372036854775807 := Nat.le_trans hl.cap hl.most
  replace hl := Lib.hid hl
  obtain ⟨ln, hn⟩ : ∃ n, l.length = n := ⟨_, rfl⟩
  rw [hn] at hlm ⊢
  replace hn := Lib.hid hn
  obtain ⟨x, hx, x1, x2⟩ := small n0 4 (by decide)
  replace x1 : (IntKind.u64.wrap n0).tmod 4 = x := x1
  obtain ⟨p, sh, hp⟩ := pow_sh x (by omega)
  have pr := hp.range
  obtain ⟨pr1, pr2⟩ := pr
  replace hp := Lib.hid hp
  clear x2 wf0
  go_enter Try.func8, Try.ntmps8
  go_wp2_with fail
  refine (works10_calls w).mono ?_
  rintro e wa ⟨rfl, hc⟩
  have CW := Lib.hid hc
  clear hc
  go_wp2_with fail
  refine (laid_calls wa).mono ?_
  rintro e w1 ⟨a, r, rfl, T⟩
  replace T := Lib.hid T
  clear x1 
  go_wp2_with fail
  refine (TE.start T.out hp.out).mono ?_
  rintro e w2 ⟨t, rfl, K0, -⟩
  replace K0 := Lib.hid K0
  clear T sh hx
  go_wp2_with fail
  go_loopg [10] 60 (fun g i wr => ∃ (k : Nat) (L : Nat → List Nat), i = .int .i64 k ∧ g = 60 - k ∧ k ≤ 60 ∧ k ≤ ln ∧ Hid (TE wa.heap.size wa wr a t p L))
  case atStart => exact ⟨0, _, rfl, rfl, by omega, by omega, K0.out⟩
  case round =>
    clear K0
    obtain ⟨k, L, rfl, hg, hk, hkn, K⟩ := hrel
    replace hg := Lib.hid hg
    by_cases hlt : k < ln ∧ k < 60
    · obtain ⟨h1, h2⟩ := hlt
      have h1' : (k : Int) < ln := by omega
      have h2' : (k : Int) < 60 := by omega
      have CC : Chg (fun b => w.heap.size ≤ b) w wr := (CW.out.mono fun _ _ h => h.elim).trans (K.out.chg.mono fun b _ hb => Nat.le_trans CW.out.size hb)
      have SR := hl.out.chg CC (Nat.le_refl _)
      obtain ⟨ad, rfl, d0, d1⟩ := SR.fields k (by rw [hn.out]; exact h1) (by decide)
      have f0 := d0 .i64 rfl
      have f1 := d1 0 .i64 rfl
      simp only [List.length_cons, List.length_nil, Nat.reduceAdd, Nat.zero_add] at f0 f1
      clear d0 d1 SR CC
      generalize (l.getD k []).getD 0 0 = kind at f0
      generalize (l.getD k []).getD 1 0 = x1 at f1
      obtain ⟨kk, hkk, q1, -⟩ := small x1 30 (by decide)
      have PC : Hid (∀ W, Calls Try.prog 31 #[(.int .i64 x1)] W fun e w' => e = .returned ((.int .i64 (64 * (kk : Int)))) ∧ w' = W) := fun W => place10_calls x1 W kk hkk q1
      have SC := Lib.hid (fun W => keys_calls x1 W kk hkk q1)
      clear q1
      by_cases e1 : kind = 1
      · have t1 : (kind == 1) = true := by rw [e1]; rfl
        clear e1 PC
        go_wp2_with fail
        refine (SC.out _).mono ?_
        rintro e w3 ⟨rfl, hc⟩
        have K3 := Lib.hid (K.out.fresh hc)
        clear hc K SC
        go_wp2_with fail
        refine (K3.out.delete hkk).mono ?_
        rintro e w4 ⟨rfl, hq, -⟩
        have K4 := Lib.hid hq
        clear hq K3 f0 f1
        go_wp2_with fail
        go_roundg (60 - (k + 1))
        case measure => have := hg.out; omega
        case rel => exact ⟨k + 1, _, rfl, rfl, by omega, by omega, K4.out⟩
      · have t1 : (kind == 1) = false := by rw [beq_eq_false_iff_ne]; exact e1
        clear e1 SC
        go_wp2_with fail
        refine (PC.out _).mono ?_
        rintro e wq ⟨rfl, rfl⟩
        clear PC
        go_wp2_with fail
        refine (K.out.insert hkk).mono ?_
        rintro e w4 ⟨rfl, hq, -⟩
        have K4 := Lib.hid hq
        clear hq K f0 f1
        go_wp2_with fail
        go_roundg (60 - (k + 1))
        case measure => have := hg.out; omega
        case rel => exact ⟨k + 1, _, rfl, rfl, by omega, by omega, K4.out⟩
    · have hend : ((ln : Int) ≤ k) ∨ ((k : Int) < ln ∧ ¬ (k : Int) < 60) := by omega
      clear hg hlt hl hk hkn
      rcases hend with he | ⟨he, he2⟩ <;>
      (go_wp2_with fail
       go_loopg [11] p (fun g i wr => ∃ b : Nat, i = .int .i64 b ∧ g = p - b ∧ b ≤ p ∧ Hid (TE wa.heap.size wa wr a t p L))
       case atStart => exact ⟨0, rfl, rfl, by omega, K.out⟩
       case round =>
         clear K
         obtain ⟨b, rfl, hg, hb, K⟩ := hrel
         replace hg := Lib.hid hg
         by_cases h1 : b < p
         · have h1' : (b : Int) < p := by omega
           have BI := K.out.bucket h1
           have HS := Lib.hid (fun j hj => at_split (L b) j hj)
           have HD := Lib.hid (headI_drop (L b))
           have PG := Lib.hid (fun j (hj : j < (L b).length) => pls_getD (L b) hj)
           have GT := Lib.hid (fun W (k : TE wa.heap.size wa W a t p L) x C A hx => k.gets h1 x C A hx)
           have m30 := K.out.len h1
           obtain ⟨m, hm⟩ : ∃ m, (L b).length = m := ⟨_, rfl⟩
           have PL : Hid ((pls (L b)).length = m) := by show _ = _; rw [pls_length, hm]
           rw [hm] at m30
           replace hm := Lib.hid hm
           replace BI := Lib.hid BI
           go_wp2_with fail
           refine BI.out.mono ?_
           rintro e w5 ⟨A5, c5, rfl, ho, hc⟩
           have K5 := Lib.hid (K.out.fresh hc)
           rw [PL.out] at ho ⊢
           obtain ⟨B5, hB5⟩ : ∃ B5 : Nat, Mem.Own w5 B5 3 .i64 (.slice A5 m c5) (pls (L b)) := ⟨_, ho⟩
           have O5 := Lib.hid hB5
           clear ho hc BI K hB5
           go_wp2_with fail
           go_loopg [14] m (fun g i wr => ∃ j : Nat, i = .int .i64 j ∧ g = m - j ∧ j ≤ m ∧ Hid (TE wa.heap.size wa wr a t p L) ∧ Hid (Mem.Own wr B5 3 .i64 (.slice A5 m c5) (pls (L b))))
           case atStart => exact ⟨0, rfl, rfl, by omega, K5.out, O5.out⟩
           case round =>
             clear K5 O5
             obtain ⟨j, rfl, hg2, hj, K6, O6⟩ := hrel
             replace hg2 := Lib.hid hg2
             by_cases h2 : j < m
             · have h2' : (j : Int) < m := by omega
               obtain ⟨ad, rfl, cj⟩ := O6.out.sl j (by rw [PL.out]; exact h2)
               rw [PG.out j (by rw [hm.out]; exact h2)] at cj
               have GJ := GT.out _ K6.out ((L b).getD j 0) ((L b).drop (j + 1)) ((L b).take j) (HS.out j (by rw [hm.out]; exact h2))
               rw [HD.out (j + 1), hm.out] at GJ
               by_cases h3 : j + 1 < m
               · have h3' : (j : Int) + 1 < m := by omega
                 rw [if_pos h3] at GJ
                 obtain ⟨ad', e', cj1⟩ := O6.out.sl (j + 1) (by rw [PL.out]; exact h3)
                 cases e'
                 rw [PG.out (j + 1) (by rw [hm.out]; exact h3), add_next] at cj1
                 generalize (L b).getD (j + 1) 0 = y at cj1 GJ
                 generalize (L b).getD j 0 = x at cj GJ
                 replace GJ := Lib.hid GJ
                 go_wp2_with fail
                 refine GJ.out.mono ?_
                 rintro e w7 ⟨rfl, hc⟩
                 have K7 := Lib.hid (K6.out.fresh hc)
                 have O7 := Lib.hid (Mem.Own.chg O6.out hc fun _ _ h => h.elim)
                 clear hc K6 O6 GJ cj cj1
                 go_wp2_with fail
                 go_roundg (m - (j + 1))
                 case measure => have := hg2.out; omega
                 case rel => exact ⟨j + 1, rfl, rfl, by omega, K7.out, O7.out⟩
               · have h3' : ¬ (j : Int) + 1 < m := by omega
                 rw [if_neg h3] at GJ
                 generalize (L b).getD j 0 = x at cj GJ
                 replace GJ := Lib.hid GJ
                 go_wp2_with fail
                 refine GJ.out.mono ?_
                 rintro e w7 ⟨rfl, hc⟩
                 have K7 := Lib.hid (K6.out.fresh hc)
                 have O7 := Lib.hid (Mem.Own.chg O6.out hc fun _ _ h => h.elim)
                 clear hc K6 O6 GJ cj
                 go_wp2_with fail
                 go_roundg (m - (j + 1))
                 case measure => have := hg2.out; omega
                 case rel => exact ⟨j + 1, rfl, rfl, by omega, K7.out, O7.out⟩
             · have h2' : ¬ (j : Int) < m := by omega
               clear O6
               go_wp2_with fail
               go_roundg (p - (b + 1))
               case measure => have := hg.out; omega
               case rel => exact ⟨b + 1, rfl, rfl, by omega, K6.out⟩
         · have h1' : ¬ (b : Int) < p := by omega
           have F := Lib.hid (((CW.out.mono (T := fun b => w.heap.size ≤ b) fun _ _ h => h.elim).trans (K.out.chg.mono fun b _ hb => Nat.le_trans CW.out.size hb)).below (Nat.le_refl _) fun _ h => h)
           clear K
           go_wp2_with fail
           go_ret
           exact ⟨rfl, F.out⟩)
end Go.Proofs.Ytolpjgpimholcaa.Assoc

/- The walk of chapter 10's AssocEmpties. -/
namespace Go.Proofs.Ytolpjgpimholcaa.Assoc
open Go Go.RowKit Go.Proofs.Ytolpjgpimholcaa.Mem Go.Proofs.Ytolpjgpimholcaa.CodecPure Go.Proofs.Ytolpjgpimholcaa.ArenaPure Go.Proofs.Ytolpjgpimholcaa.Codec Go.Proofs.Ytolpjgpimholcaa.Arena Go.Proofs.Ytolpjgpimholcaa.Item Go.Proofs.Ytolpjgpimholcaa.Fnv
set_option linter.unusedVariables false
set_option maxRecDepth 100000
variable {B : Nat} {w0 w w' : World} {a : Ar} {t : Th} {n : Nat} {L : Nat → List Nat} {E : List Nat}
/-- a table, and items that lead nowhere -/
structure TX (B : Nat) (w0 w : World) (a : Ar) (t : Th) (n : Nat) (L : Nat → List Nat) (E : List Nat) : Prop where
  ex : ∃ s nx H, Here B w0 w a s ∧ TL w a t s nx n H L ∧ ∀ k ∈ E, nx k = -1
  low : B ≤ t.b ∧ B ≤ t.h
theorem TX.te (k : TX B w0 w a t n L E) : TE B w0 w a t n L := by
  obtain ⟨s, nx, H, h1, h2, -⟩ := k.ex
  exact ⟨⟨s, nx, H, h1, h2⟩, k.low⟩
theorem TX.fresh (k : TX B w0 w a t n L E) (hc : Chg (fun _ => False) w w') : TX B w0 w' a t n L E := by
  obtain ⟨s, nx, H, h1, h2, h3⟩ := k.ex
  exact ⟨⟨s, nx, H, h1.fresh hc, h2.fresh hc, h3⟩, k.low⟩
def XEnd (B : Nat) (w0 w : World) (a : Ar) (t : Th) (n : Nat) (L : Nat → List Nat) (b : Nat) (e : Ending) (w' : World) : Prop :=
  ∃ A c, e = .returned (.tuple #[.slice A (L b).length c, .int .i64 0]) ∧ Mem.Own w' w.heap.size 3 .i64 (.slice A (L b).length c) (pls (L b)) ∧ TX B w0 w' a t n (updL L b []) (L b) ∧ Chg (T2 a t) w w'
theorem TE.empty (k : TE B w0 w a t n L) {b : Nat} (hb : b < n) : Calls Try.prog 35 #[(.pointer (some ⟨t.b, 0, none⟩)), (.int .i64 b)] w (XEnd B w0 w a t n L b) := by
  obtain ⟨s, nx, H, h1, h2⟩ := k.ex
  exact (empty_in h2 hb).mono fun e w' ⟨A, c, s', e1, e2, e3, e4⟩ => ⟨A, c, e1, e2, by
    obtain ⟨s2, nx2, H2, g1, g2⟩ := (k.next h1 e3 e4).ex
    have hh := h1.chg.trans (e4.mono (T := fun b => B ≤ b) fun x _ hx => by
      rcases hx with hx | rfl | rfl
      · exact h1.low.2.2 x hx
      · exact k.low.1
      · exact k.low.2)
    exact ⟨⟨s', _, _, ⟨e3.lies, hh, h1.low⟩, e3, fun j hj => by show (if j ∈ L b then _ else _) = _; rw [if_pos hj]⟩, k.low⟩, e4⟩
theorem TX.get (k : TX B w0 w a t n L E) {x : Nat} (hx : x < 30) (hm : x ∈ E) : Calls Try.prog 23 #[(.pointer (some ⟨a.g, 0, none⟩)), (.int .i64 (64 * (x : Int))), (.int .i64 0)] w (Ans2 w (-1) 0) := by
  obtain ⟨s, nx, H, h1, h2, h3⟩ := k.ex
  have := get_calls h2.lies (64 * (x : Int)) 0 (by omega)
  rw [h2.ns.nx x hx, h3 x hm] at this
  exact this
theorem TX.insert {x : Nat} (k : TX B w0 w a t n L (E ++ [x])) (hx : x < 30) (hn : x ∉ E) (hm : x ∉ L (hb n x)) : Calls Try.prog 30 #[(.pointer (some ⟨t.b, 0, none⟩)), (.int .i64 (64 * (x : Int)))] w fun e w' => e = .returned (.int .i64 0) ∧ TX B w0 w' a t n (updL L (hb n x) (x :: L (hb n x))) E ∧ Chg (T2 a t) w w' := by
  obtain ⟨s, nx, H, h1, h2, h3⟩ := k.ex
  exact (insert_new h2 hx hm).mono fun e w' ⟨e1, e3, e4⟩ => ⟨e1, by
    have hh := h1.chg.trans (e4.mono (T := fun b => B ≤ b) fun x _ hx => by
      rcases hx with hx | rfl | rfl
      · exact h1.low.2.2 x hx
      · exact k.low.1
      · exact k.low.2)
    exact ⟨⟨_, _, _, ⟨e3.lies, hh, h1.low⟩, e3, fun j hj => by
      rw [upd_ne _ _ (fun e => hn (by rw [← e]; exact hj))]
      exact h3 j (by simp [hj])⟩, k.low⟩, e4⟩
theorem updL_updL (L : Nat → List Nat) (b : Nat) (l m : List Nat) : updL (updL L b l) b m = updL L b m := by
  funext j
  unfold updL
  split <;> rfl
theorem drop_at (l : List Nat) {j : Nat} (h : j < l.length) : l.drop j = l.getD j 0 :: l.drop (j + 1) := by
  rw [List.drop_eq_getElem_cons h, List.getD_eq_getElem?_getD, List.getElem?_eq_getElem h]
  rfl
theorem getD_in (l : List Nat) {j : Nat} (h : j < l.length) : l.getD j 0 ∈ l := by
  rw [List.getD_eq_getElem?_getD, List.getElem?_eq_getElem h]
  exact List.getElem_mem h
set_option maxHeartbeats 1000000 in
theorem empties_walk (A : Option Addr) (c : Nat) (l : List Int) (bk : Int) (w : World) (hl : RowOf w .i64 A c l 8) (wf1 : (Lit.int .i64 bk).wf = true) :
    Calls Try.prog 9 #[.slice A l.length c, (.int .i64 bk)] w fun e w' => e = .returned (.bool true) ∧ Below w.heap.size w w' := by
  have hlm : l.length ≤ 9223372036854775807 := Nat.le_trans hl.cap hl.most
  replace hl := Lib.hid hl
  obtain ⟨ln, hn⟩ : ∃ n, l.length = n := ⟨_, rfl⟩
  rw [hn] at hlm ⊢
  replace hn := Lib.hid hn
  obtain ⟨b, hb4, x1, x2⟩ := small bk 4 (by decide)
  replace x1 : (IntKind.u64.wrap bk).tmod 4 = b := x1
  clear x2 wf1
  go_enter Try.func9, Try.ntmps9
  go_wp2_with fail
  refine (works10_calls w).mono ?_
  rintro e wa ⟨rfl, hc⟩
  have CW := Lib.hid hc
  clear hc
  go_wp2_with fail
  refine (laid_calls wa).mono ?_
  rintro e w1 ⟨a, r, rfl, T⟩
  replace T := Lib.hid T
  go_wp2_with fail
  refine (TE.start T.out (n := 4) (.inr (.inr (.inl rfl)))).mono ?_
  rintro e w2 ⟨t, rfl, K0, -⟩
  replace K0 := Lib.hid K0
  clear T
  go_wp2_with fail
  go_loopg [10] 60 (fun g i wr => ∃ (k : Nat) (L : Nat → List Nat), i = .int .i64 k ∧ g = 60 - k ∧ k ≤ 60 ∧ k ≤ ln ∧ Hid (TE wa.heap.size wa wr a t 4 L))
  case atStart => exact ⟨0, _, rfl, rfl, by omega, by omega, K0.out⟩
  case round =>
    clear K0
    obtain ⟨k, L, rfl, hg, hk, hkn, K⟩ := hrel
    replace hg := Lib.hid hg
    by_cases hlt : k < ln ∧ k < 60
    · obtain ⟨h1, h2⟩ := hlt
      have h1' : (k : Int) < ln := by omega
      have h2' : (k : Int) < 60 := by omega
      have CC : Chg (fun b => w.heap.size ≤ b) w wr := (CW.out.mono fun _ _ h => h.elim).trans (K.out.chg.mono fun b _ hb => Nat.le_trans CW.out.size hb)
      obtain ⟨ad, rfl, cj⟩ := hl.out.sl k (by rw [hn.out]; exact h1)
      have cj2 := CC.cell cj (by have := World.block_lt_of_cell? w _ cj; omega)
      clear CC cj
      generalize l.getD k 0 = x1 at cj2
      obtain ⟨kk, hkk, q1, -⟩ := small x1 30 (by decide)
      have PC : Hid (∀ W, Calls Try.prog 31 #[(.int .i64 x1)] W fun e w' => e = .returned ((.int .i64 (64 * (kk : Int)))) ∧ w' = W) := fun W => place10_calls x1 W kk hkk q1
      clear q1
      go_wp2_with fail
      refine (PC.out _).mono ?_
      rintro e wq ⟨rfl, rfl⟩
      clear PC
      go_wp2_with fail
      refine (K.out.insert hkk).mono ?_
      rintro e w4 ⟨rfl, hq, -⟩
      have K4 := Lib.hid hq
      clear hq K cj2
      go_wp2_with fail
      go_roundg (60 - (k + 1))
      case measure => have := hg.out; omega
      case rel => exact ⟨k + 1, _, rfl, rfl, by omega, by omega, K4.out⟩
    · have hend : ((ln : Int) ≤ k) ∨ ((k : Int) < ln ∧ ¬ (k : Int) < 60) := by omega
      have CB : Hid (∀ W, Chg (fun b => wa.heap.size ≤ b) wa W → Below w.heap.size w W) := fun W hc => ((CW.out.mono fun _ _ h => h.elim).trans (hc.mono fun b _ hb => Nat.le_trans CW.out.size hb)).below (Nat.le_refl _) fun _ h => h
      have TB := total_empty (L := L) (b := b) (n := 4) hb4
      have SZ := Lib.hid (fun W (k : TE wa.heap.size wa W a t 4 L) => k.size)
      have SZ2 := Lib.hid (fun W (k : TX wa.heap.size wa W a t 4 (updL L b []) (L b)) => k.te.size)
      have ND := Lib.hid (K.out.nodup b hb4)
      have MM := Lib.hid (K.out.mem b hb4)
      have m30 := K.out.len hb4
      have PG := Lib.hid (fun j (hj : j < (L b).length) => pls_getD (L b) hj)
      obtain ⟨m, hm⟩ : ∃ m, (L b).length = m := ⟨_, rfl⟩
      obtain ⟨q, hq⟩ : ∃ q, total (updL L b []) 4 = q := ⟨_, rfl⟩
      obtain ⟨p, hp⟩ : ∃ p, total L 4 = p := ⟨_, rfl⟩
      have T30 : p < 100000 := by
        obtain ⟨s, nx, H, h1, h2⟩ := K.out.ex
        have := h2.total30
        omega
      rw [hm, hp, hq] at TB
      rw [hp] at SZ
      rw [hq] at SZ2
      have ws : IntKind.i64.wrap ((p : Int) - (m : Int)) = (q : Int) := by rw [IntWalk.i64_in _ (by omega)]; omega
      have LE : Hid (∀ W, TX wa.heap.size wa W a t 4 (updL L b []) (L b) → TX wa.heap.size wa W a t 4 (updL L b ((L b).drop m)) ((L b).take m)) := fun W h => by
        rw [← hm, List.drop_length, List.take_length]; exact h
      have TD := Lib.hid (List.take_append_drop (l := L b))
      have PL : Hid ((pls (L b)).length = m) := by show _ = _; rw [pls_length, hm]
      rw [hm] at m30
      replace hm := Lib.hid hm
      have TB' := Lib.hid TB
      clear hg hlt hk hkn hl TB hp hq T30
      rcases hend with he | ⟨he, he2⟩ <;>
      (go_wp2_with fail
       refine (SZ.out _ K.out).mono ?_
       rintro e w3 ⟨rfl, hd⟩
       have K3 := Lib.hid (K.out.fresh (hd.chg _))
       clear hd K SZ
       go_wp2_with fail
       have T2L := Lib.hid (t2_lt K3.out)
       have BI := Lib.hid (K3.out.bucket hb4)
       refine BI.out.mono ?_
       rintro e w4 ⟨A4, c4, rfl, ho, hc⟩
       rw [PL.out] at ho ⊢
       have K4 := Lib.hid (K3.out.fresh hc)
       obtain ⟨B4, hB4, hO4⟩ : ∃ B4 : Nat, w3.heap.size ≤ B4 ∧ Mem.Own w4 B4 3 .i64 (.slice A4 m c4) (pls (L b)) := ⟨_, Nat.le_refl _, ho⟩
       have FZ : Hid (∀ g, T2 a t g → g < B4) := fun g hg => Nat.lt_of_lt_of_le (T2L.out g hg) hB4
       have B34 := Lib.hid (Nat.le_trans hB4 (Nat.le_refl _))
       have sz4 := Lib.hid hc.size
       have O4 := Lib.hid hO4
       clear ho hc BI K3 hO4 hB4
       go_wp2_with fail
       refine (K4.out.empty hb4).mono ?_
       rintro e w5 ⟨A5, c5, rfl, ho, hX, hc⟩
       rw [hm.out] at ho ⊢
       have X5 := Lib.hid hX
       obtain ⟨B5, hB5, hO5⟩ : ∃ B5 : Nat, w3.heap.size ≤ B5 ∧ Mem.Own w5 B5 3 .i64 (.slice A5 m c5) (pls (L b)) := ⟨_, sz4.out, ho⟩
       have FY : Hid (∀ g, T2 a t g → g < B5) := fun g hg => Nat.lt_of_lt_of_le (T2L.out g hg) hB5
       have O5 := Lib.hid hO5
       have O45 := Lib.hid (Mem.Own.chg O4.out hc fun g e h => by have := (World.ownsRow.lt O4.out g e).1; have := FZ.out _ h; omega)
       clear ho hc hX hO5 hB5 K4 O4 sz4 B34 T2L
       go_wp2_with fail
       refine (SZ2.out _ X5.out).mono ?_
       rintro e w6 ⟨rfl, hd⟩
       have X6 := Lib.hid (X5.out.fresh (hd.chg _))
       have O46 := Lib.hid (Mem.Own.chg O45.out (hd.chg (fun _ => False)) fun _ _ h => h.elim)
       have O56 := Lib.hid (Mem.Own.chg O5.out (hd.chg (fun _ => False)) fun _ _ h => h.elim)
       clear hd X5 O45 O5 SZ2
       go_wp2_with fail
       have BI := X6.out.te.bucket hb4
       rw [updL_at] at BI
       replace BI := Lib.hid BI
       refine BI.out.mono ?_
       rintro e w7 ⟨A7, c7, rfl, -, hc⟩
       have X7 := Lib.hid (X6.out.fresh hc)
       have O47 := Lib.hid (Mem.Own.chg O46.out hc fun _ _ h => h.elim)
       have O57 := Lib.hid (Mem.Own.chg O56.out hc fun _ _ h => h.elim)
       have z7 : (pls []).length = 0 := rfl
       rw [z7]
       clear hc X6 O46 O56 BI z7
       go_wp2_with fail
       go_loopg [20] m (fun g i wr => ∃ j : Nat, i = .int .i64 ((j : Int) - 1) ∧ g = j ∧ j ≤ m ∧ Hid (TX wa.heap.size wa wr a t 4 (updL L b ((L b).drop j)) ((L b).take j)) ∧ Hid (Mem.Own wr B4 3 .i64 (.slice A4 m c4) (pls (L b))) ∧ Hid (Mem.Own wr B5 3 .i64 (.slice A5 m c5) (pls (L b))))
       case atStart => exact ⟨m, rfl, rfl, Nat.le_refl _, LE.out _ X7.out, O47.out, O57.out⟩
       case round =>
         clear X7 O47 O57
         obtain ⟨j, rfl, hg, hj, X8, O48, O58⟩ := hrel
         replace hg := Lib.hid hg
         cases j with
         | zero =>
           have e0 : ((0 : Nat) : Int) - 1 = -1 := rfl
           rw [e0]
           clear e0 hg
           have X0 := X8.out
           rw [List.drop_zero] at X0
           have BI := X0.te.bucket hb4
           rw [updL_at] at BI
           replace BI := Lib.hid BI
           replace X0 := Lib.hid X0
           clear X8
           go_wp2_with fail
           refine BI.out.mono ?_
           rintro e w9 ⟨A9, c9, rfl, ho, hc⟩
           rw [PL.out] at ho ⊢
           have C0 := Lib.hid (X0.out.te.chg.trans (hc.mono (T := fun b => wa.heap.size ≤ b) fun _ _ h => h.elim))
           have O9 := Lib.hid ho
           have O49 := Lib.hid (Mem.Own.chg O48.out hc fun _ _ h => h.elim)
           clear ho hc X0 BI O48 O58
           go_wp2_with fail
           go_loopg [23] m (fun g i wr => Hid (Chg (fun _ => False) w9 wr) ∧ ∃ j : Nat, i = .int .i64 j ∧ g = m - j ∧ j ≤ m)
           case atStart => exact ⟨Lib.hid (Chg.refl _ _), 0, rfl, rfl, Nat.zero_le _⟩
           case round =>
             obtain ⟨D9, i, rfl, hg, hi⟩ := hrel
             by_cases hlt : i < m
             · obtain ⟨a4, rfl, c4i⟩ := (Mem.Own.chg O49.out D9.out fun _ _ h => h.elim).sl i (by rw [PL.out]; exact hlt)
               obtain ⟨a9, rfl, c9i⟩ := (Mem.Own.chg O9.out D9.out fun _ _ h => h.elim).sl i (by rw [PL.out]; exact hlt)
               generalize (pls (L b)).getD i 0 = x at c4i c9i
               have hlt' : (i : Int) < m := by omega
               go_wp2_with fail
               go_region
               go_wp2_with fail
               go_roundg (m - (i + 1))
               case measure => omega
               case rel => exact ⟨Lib.hid (D9.out.trans (Chg.drew _ _)), i + 1, rfl, rfl, by omega⟩
             · have hge : ¬ (i : Int) < m := by omega
               have FIN := Lib.hid (CB.out _ (C0.out.trans (D9.out.mono (T := fun b => wa.heap.size ≤ b) fun _ _ h => h.elim)))
               go_wp2_with fail
               go_ret
               exact ⟨rfl, FIN.out⟩
         | succ j =>
           have e1 : ((j + 1 : Nat) : Int) - 1 = (j : Int) := by omega
           rw [e1]
           clear e1
           obtain ⟨ad4, rfl, c4j⟩ := O48.out.sl j (by rw [PL.out]; omega)
           obtain ⟨ad5, rfl, c5j⟩ := O58.out.sl j (by rw [PL.out]; omega)
           rw [PG.out j (by rw [hm.out]; omega)] at c4j c5j
           have jL : j < (L b).length := by rw [hm.out]; omega
           have SPj := take_snoc (L b) jL
           have DRj := drop_at (L b) jL
           have MMj := MM.out _ (getD_in (L b) jL)
           clear jL
           have NDj := ND.out
           rw [← TD.out j, DRj] at NDj
           have X8' := X8.out
           rw [SPj] at X8'
           generalize hxx : (L b).getD j 0 = x at c4j c5j DRj MMj X8' NDj
           have nE : x ∉ (L b).take j := fun h => (List.nodup_append.1 NDj).2.2 x h x (by simp) rfl
           have nD : x ∉ (L b).drop (j + 1) := (List.nodup_cons.1 (List.nodup_append.1 NDj).2.1).1
           have GJ := Lib.hid (X8'.get MMj.1 (by simp))
           have IJ : Hid (∀ W, TX wa.heap.size wa W a t 4 (updL L b ((L b).drop (j + 1))) ((L b).take j ++ [x]) → Calls Try.prog 30 #[(.pointer (some ⟨t.b, 0, none⟩)), (.int .i64 (64 * (x : Int)))] W fun e w' => e = .returned (.int .i64 0) ∧ TX wa.heap.size wa w' a t 4 (updL L b ((L b).drop j)) ((L b).take j) ∧ Chg (T2 a t) W w') := fun W q => by
             have := q.insert MMj.1 nE (by rw [MMj.2, updL_at]; exact nD)
             rw [MMj.2, updL_at, updL_updL, ← DRj] at this
             exact this
           have X9 := Lib.hid X8'
           clear X8 X8' NDj nE nD SPj DRj MMj hxx
           go_wp2_with fail
           refine GJ.out.mono ?_
           rintro e w9 ⟨rfl, hc⟩
           have Xa := Lib.hid (X9.out.fresh (hc.trans (Chg.drew _ _)))
           have O49 := Lib.hid (Mem.Own.chg O48.out (hc.trans (Chg.drew _ _)) fun _ _ h => h.elim)
           have O59 := Lib.hid (Mem.Own.chg O58.out (hc.trans (Chg.drew _ _)) fun _ _ h => h.elim)
           have c4k := hc.cell c4j id
           have c5k := hc.cell c5j id
           have c4d : (World.drew w9).cell? (ad4.add j) = some (.int .i64 (64 * (x : Int))) := c4k
           have c5d : (World.drew w9).cell? (ad5.add j) = some (.int .i64 (64 * (x : Int))) := c5k
           have ns4 : Hid (¬ T2 a t (ad4.add j).block) := fun h => by
             have := (O48.out.base ad4 rfl).1
             rw [add_block] at h
             have := FZ.out _ h
             omega
           have ns5 : Hid (¬ T2 a t (ad5.add j).block) := fun h => by
             have := (O58.out.base ad5 rfl).1
             rw [add_block] at h
             have := FY.out _ h
             omega
           clear hc X9 O48 O58 GJ c4j c5j
           have jm : (j : Int) < (m : Int) := by omega
           have j0 : (0 : Int) ≤ (j : Int) := by omega
           have jm2 : (j : Int) ≤ (m : Int) := by omega
           go_wp2_with fail
           go_region_held3 (fun w' => w'.cell? (ad4.add j) = some (.int .i64 (64 * (x : Int))) ∧ w'.cell? (ad5.add j) = some (.int .i64 (64 * (x : Int)))) (go_keep)
             (first
               | (go_at_call 30; refine (IJ.out _ Xa.out).mono ?_; rintro e w10 ⟨rfl, hX, hc⟩; have Xb := Lib.hid hX; have O4b := Lib.hid (Mem.Own.chg O49.out hc fun g e h => by have := (World.ownsRow.lt O49.out g e).1; have := FZ.out _ h; omega); have O5b := Lib.hid (Mem.Own.chg O59.out hc fun g e h => by have := (World.ownsRow.lt O59.out g e).1; have := FY.out _ h; omega); have m4 := hc.cell c4d ns4.out; have m5 := hc.cell c5d ns5.out; clear hX hc; skip))
           all_goals
             (clear c4k c5k c4d c5d m4 m5
              go_wp2_with fail
              go_roundg j
              case measure => have := hg.out; omega
              case rel => exact ⟨j, rfl, rfl, by omega, Xb.out, O4b.out, O5b.out⟩))
end Go.Proofs.Ytolpjgpimholcaa.Assoc

