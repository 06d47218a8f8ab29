import Derived.Test.YtolpjgpimholcaaGh
import Derived.Test.YtolpjgpimholcaaGf
import Derived.BigQuiet
import Derived.Deep.QuietTactic
import Derived.Deep.DeepCutAuto
import Derived.RangeFuncNested
import Derived.RangeFuncBound
import Derived.RangeFuncCalls
import Derived.RangeFuncLeaves
import Derived.RangeFuncBox
import Derived.Shelf.Abstract
import Derived.Shelf.RegionOpen
import Derived.OwnWalkIn
import Derived.TacticsInMore
import Derived.LoopNIn
import Derived.LoopIn
import Derived.Maps.AppendAt
import Derived.RegionIn
import Derived.Sort.QuietIn
import Derived.Test.YtolpjgpimholcaaGa
import Derived.Deep.RegionHeld3
import Derived.StillTailTactics
import Derived.Test.YtolpjgpimholcaaGg
/- The walks of chapter 10's Key, the program's and the reference's. -/
namespace Go.Proofs.Ytolpjgpimholcaa.Assoc
open Go Go.RowKit Go.Proofs.Ytolpjgpimholcaa.Mem Go.Proofs.Ytolpjgpimholcaa.CodecPure Go.Proofs.Ytolpjgpimholcaa.ArenaPure Go.Proofs.Ytolpjgpimholcaa.Codec Go.Proofs.Ytolpjgpimholcaa.Arena Go.Proofs.Ytolpjgpimholcaa.Item Go.Proofs.Ytolpjgpimholcaa.Fnv
set_option linter.unusedVariables false
set_option maxRecDepth 100000
variable {w w' : World} {a : Ar} {r : Ra} {s : St}
/-- a text and an error; nothing that was there has turned -/
def KEnd (w : World) (q : List Int × Int) (e : Ending) (w' : World) : Prop := e = .returned (.tuple #[.string (strOfNums q.1), .int .i64 q.2]) ∧ Chg (fun _ => False) w w'
theorem got_tail {s : St} {x n : Int} (h : within s x (40 + n)) (hs : Ok s) (hn : 0 ≤ n) : (got s x (40 + n)).drop 40 = got s (x + 40) n := by
  have hx := h.2.1
  have hl := got_length hs h
  rw [got_part s (x := x) (n := 40 + n) (k := 40) (m := n) hx (by decide) hn (by omega)]
  show _ = ((got s x (40 + n)).drop 40).take n.toNat
  rw [List.take_of_length_le]
  rw [List.length_drop]; omega
theorem str_empty : strOfNums [] = (⟨#[]⟩ : ByteArray) := rfl
theorem akey_calls (hl : Lies w a s) (x : Int) (hx : -9223372036854775808 ≤ x ∧ x ≤ 9223372036854775807) : Calls Try.prog 42 #[(.pointer (some ⟨a.g, 0, none⟩)), (.int .i64 x)] w (KEnd w (keyP s x)) := by
  have hs := hl.ok
  by_cases h1 : within s x 40
  rotate_left
  · have e1 : readA s x 40 = ([], 1) := if_neg h1
    have e2 : keyP s x = ([], 1) := if_neg h1
    have R := read_calls hl x 40 hx
    rw [e1] at R
    rw [e2]
    replace R := Lib.hid R
    clear h1 e1 e2 hl hs
    go_enter Try.func42, Try.ntmps42
    go_wp2_with fail
    refine R.out.mono ?_
    rintro e w1 ⟨A, c, rfl, -, hc⟩
    replace hc := Lib.hid hc
    go_wp2_with fail
    go_ret2
    exact ⟨rfl, hc.out⟩
  have e1 : readA s x 40 = (got s x 40, 0) := if_pos h1
  have R1 := read_calls hl x 40 hx
  rw [e1] at R1
  have hn := number_range hs (x + fat 8) (fw 8) (by decide)
  have eg : itemGet s x 8 = number s (x + fat 8) (fw 8) := by
    unfold itemGet
    rw [if_neg (by decide), if_neg (hdr_no h1), if_neg (by decide)]
  rw [← eg] at hn
  have G1 := fun (W : World) (hW : Lies W a s) => get_calls hW x 8 hx
  obtain ⟨n, er, hne⟩ : ∃ n er, itemGet s x 8 = (n, er) := ⟨_, _, rfl⟩
  rw [hne] at hn
  simp only [hne] at G1
  obtain ⟨hn0, hn1⟩ : 0 ≤ n ∧ n < 4294967296 := hn
  have xr : x ≤ 100000 := by have := h1.2.2.1; have := hs.high; omega
  have ws : IntKind.i64.wrap (40 + n) = 40 + n := IntWalk.i64_in _ (by omega)
  have x0 := h1.2.1
  have KE : keyP s x = if within s x (40 + n) then if keyOk (got s (x + 40) n) then (got s (x + 40) n, 0) else ([], 6) else ([], 1) := by
    unfold keyP
    rw [if_pos h1, hne]
  clear eg hne
  have hlh := Lib.hid hl
  by_cases h2 : within s x (40 + n)
  rotate_left
  · have e3 : readA s x (40 + n) = ([], 1) := if_neg h2
    have R2 := Lib.hid (fun (W : World) (hW : Lies W a s) => by
      have := read_calls hW x (40 + n) hx
      rw [e3] at this
      exact this)
    rw [if_neg h2] at KE
    rw [KE]
    replace R1 := Lib.hid R1
    replace G1 := Lib.hid G1
    clear h1 h2 e1 e3 hl hs KE
    go_enter Try.func42, Try.ntmps42
    go_wp2_with fail
    refine R1.out.mono ?_
    rintro e w1 ⟨A, c, rfl, -, hc⟩
    replace hc := Lib.hid hc
    have H1 := Lib.hid (hlh.out.chg hc.out id id fun _ _ => id)
    go_wp2_with fail
    refine (G1.out _ H1.out).mono ?_
    rintro e w2 ⟨rfl, hc2⟩
    have C2 := Lib.hid (hc.out.trans hc2)
    have H2 := Lib.hid (hlh.out.chg C2.out id id fun _ _ => id)
    clear hc hc2 R1 G1 H1
    go_wp2_with fail
    refine (R2.out _ H2.out).mono ?_
    rintro e w3 ⟨A3, c3, rfl, -, hc⟩
    have C3 := Lib.hid (C2.out.trans hc)
    clear hc
    go_wp2_with fail
    go_ret2
    exact ⟨rfl, C3.out⟩
  have e3 : readA s x (40 + n) = (got s x (40 + n), 0) := if_pos h2
  have R2 : Hid (∀ W, Lies W a s → Calls Try.prog 63 #[(.pointer (some ⟨a.g, 0, none⟩)), (.int .i64 x), (.int .i64 (40 + n))] W (Rd W (got s x (40 + n)) 0)) := fun W hW => by
    have := read_calls hW x (40 + n) hx
    rw [e3] at this
    exact this
  have GT := got_tail h2 hs hn0
  have GL := got_length hs h2
  have GB := got_bytes hs x (40 + n)
  rw [if_pos h2] at KE
  rw [← GT] at KE
  generalize got s x (40 + n) = b at R2 GT GL GB KE
  have BB : Hid (∀ y ∈ b.drop 40, 0 ≤ y ∧ y ≤ 255) := fun y hy => GB y (List.mem_of_mem_drop hy)
  have KC := Lib.hid (fun (W : World) => key_calls (strOfNums (b.drop 40)) W (by
    have := bs_length (strOfNums (b.drop 40))
    rw [bs_str BB.out] at this
    rw [← this, List.length_drop]
    omega))
  rw [bs_str BB.out] at KC
  have bl : 40 ≤ b.length := by omega
  replace R1 := Lib.hid R1
  replace G1 := Lib.hid G1
  clear h1 h2 e1 e3 hl hs GT GB BB
  obtain ⟨ok, hok⟩ : ∃ ok, keyOk (b.drop 40) = ok := ⟨_, rfl⟩
  rw [hok] at KC KE
  rw [KE]
  clear KE hok
  obtain ⟨q, hq⟩ : ∃ q, (if ok = true then (b.drop 40, (0 : Int)) else ([], 6)) = q := ⟨_, rfl⟩
  rw [hq]
  replace hq := Lib.hid hq
  replace GL := Lib.hid GL
  replace bl := Lib.hid bl
  go_enter Try.func42, Try.ntmps42
  go_wp2_with fail
  refine R1.out.mono ?_
  rintro e w1 ⟨A, c, rfl, -, hc⟩
  replace hc := Lib.hid hc
  have H1 := Lib.hid (hlh.out.chg hc.out id id fun _ _ => id)
  go_wp2_with fail
  refine (G1.out _ H1.out).mono ?_
  rintro e w2 ⟨rfl, hc2⟩
  have C2 := Lib.hid (hc.out.trans hc2)
  have H2 := Lib.hid (hlh.out.chg C2.out id id fun _ _ => id)
  clear hc hc2 R1 G1 H1
  go_wp2_with fail
  refine (R2.out _ H2.out).mono ?_
  rintro e w3 ⟨A3, c3, rfl, O3, hc⟩
  have C3 := Lib.hid (C2.out.trans hc)
  obtain ⟨v1, run1, sv1⟩ := O3.slv.from Try.underlying52 elem_byte 40 bl.out
  obtain ⟨A4, c4, rfl, S4, -⟩ := sv1.v
  have cv := conv_sl (P := Try.prog) (src := 52) (dst := 9) (e := 5) (c := c4) Try.underlying52 Try.underlying5 Try.underlying9 S4
  clear hc O3 sv1 S4
  replace run1 : ∀ W : World, (Instr.sliceAt 52 (.slice A3 b.length c3) (some (.int .i64 40)) none none).run Try.prog W = .ok (.slice A4 (b.drop 40).length c4) W := run1
  generalize (b.drop 40).length = ln at run1 cv
  have KC3 := Lib.hid (KC.out w3)
  clear KC H2 C2 R2 bl GL
  have HK : Hid (ok = true → q = (b.drop 40, 0)) := fun e => by rw [← hq.out, if_pos e]
  have HN : Hid (ok = false → q = ([], 6)) := fun e => by rw [← hq.out, e]; rfl
  obtain ⟨key, hkey⟩ : ∃ key, strOfNums (b.drop 40) = key := ⟨_, rfl⟩
  rw [hkey] at cv KC3
  replace hkey := Lib.hid hkey
  clear hq
  go_wp2_with fail
  refine KC3.out.mono ?_
  rintro e w4 ⟨rfl, rfl⟩
  cases ok with
  | true =>
    have e := HK.out rfl
    subst e
    go_wp2_with fail
    go_ret2
    exact ⟨congrArg (fun z => Ending.returned (.tuple #[.string z, .int .i64 0])) hkey.out.symm, C3.out⟩
  | false =>
    have e := HN.out rfl
    subst e
    go_wp2_with fail
    go_ret2
    exact ⟨rfl, C3.out⟩
end Go.Proofs.Ytolpjgpimholcaa.Assoc

/- The walks of chapter 10's table: its memory, buckets, what leads through a bucket. -/
namespace Go.Proofs.Ytolpjgpimholcaa.Assoc
open Go Go.RowKit Go.Shelf Go.Proofs.Ytolpjgpimholcaa.Mem Go.Proofs.Ytolpjgpimholcaa.CodecPure Go.Proofs.Ytolpjgpimholcaa.ArenaPure Go.Proofs.Ytolpjgpimholcaa.Codec Go.Proofs.Ytolpjgpimholcaa.Arena Go.Proofs.Ytolpjgpimholcaa.Item Go.Proofs.Ytolpjgpimholcaa.Fnv
set_option linter.unusedVariables false
set_option maxRecDepth 100000
attribute [local go_sem] Oper.semAt_some
/-- a table's blocks: itself, and its heads -/
structure Th where
  b : Nat
  h : Nat
structure TM (w : World) (a : Ar) (t : Th) (n : Nat) (H : List Int) (cnt : Nat) : Prop where
  head : w.heap[t.b]? = some (.cells #[(.pointer (some ⟨a.g, 0, none⟩)), .slice (some ⟨t.h, 0, none⟩) n n, .int .i64 cnt] 121 (0, 0))
  row : w.heap[t.h]? = some (.cells (nums .i64 H).toArray 3 (0, 0))
  len : H.length = n
  most : n ≤ 64
  sep : t.b ≠ t.h
  off : t.b ≠ a.g ∧ t.b ≠ a.ps ∧ t.b ∉ a.pb ∧ t.h ≠ a.g ∧ t.h ≠ a.ps ∧ t.h ∉ a.pb
variable {w w' : World} {a : Ar} {t : Th} {n cnt : Nat} {H : List Int} {s : St} {nx : Nat → Int} {L : Nat → List Nat}
/-- the blocks that a table's acts write -/
def T2 (a : Ar) (t : Th) (x : Nat) : Prop := x ∈ a.pb ∨ x = t.b ∨ x = t.h
theorem TM.chg {S : Nat → Prop} (k : TM w a t n H cnt) (hc : Chg S w w') (hb : ¬ S t.b) (hh : ¬ S t.h) : TM w' a t n H cnt :=
  ⟨hc.keep k.head hb, hc.keep k.row hh, k.len, k.most, k.sep, k.off⟩
theorem TM.fresh (k : TM w a t n H cnt) (hc : Chg (fun _ => False) w w') : TM w' a t n H cnt := k.chg hc id id
theorem TM.arena (k : TM w a t n H cnt) (hc : Chg (· ∈ a.pb) w w') : TM w' a t n H cnt := k.chg hc k.off.2.2.1 k.off.2.2.2.2.2
theorem TM.c0 (k : TM w a t n H cnt) : w.cell? ⟨t.b, 0, none⟩ = some (.pointer (some ⟨a.g, 0, none⟩)) := by rw [blk_cell k.head]; rfl
theorem TM.c1 (k : TM w a t n H cnt) : w.cell? ⟨t.b, 1, none⟩ = some (.slice (some ⟨t.h, 0, none⟩) n n) := by rw [blk_cell k.head]; rfl
theorem TM.c2 (k : TM w a t n H cnt) : w.cell? ⟨t.b, 2, none⟩ = some (.int .i64 cnt) := by rw [blk_cell k.head]; rfl
theorem TM.h (k : TM w a t n H cnt) {i : Nat} (hi : i < n) : w.cell? ⟨t.h, i, none⟩ = some (.int .i64 (H.getD i 0)) := by
  rw [blk_cell k.row, List.getElem?_toArray]
  exact nums_get .i64 H i (by rw [k.len]; exact hi)
/-- another first item of a bucket -/
theorem TM.setH (k : TM w a t n H cnt) {i : Nat} (hi : i < n) (x : Int) : TM (w.setCell ⟨t.h, i, none⟩ (.int .i64 x)) a t n (H.set i x) cnt := by
  refine ⟨(Chg.setCell (S := fun y => y = t.h) w ⟨t.h, i, none⟩ _ rfl).keep k.head fun e => k.sep e, ?_, by rw [List.length_set]; exact k.len, k.most, k.sep, k.off⟩
  rw [setCell_row k.row, setRow_heap w _ _ _ _ (0, 0) k.row]
  congr 2
  unfold nums
  rw [List.map_set]
  simp
theorem TM.setN (k : TM w a t n H cnt) (m : Nat) : TM (w.setCell ⟨t.b, 2, none⟩ (.int .i64 m)) a t n H m := by
  refine ⟨?_, (Chg.setCell (S := fun y => y = t.b) w ⟨t.b, 2, none⟩ _ rfl).keep k.row fun e => k.sep e.symm, k.len, k.most, k.sep, k.off⟩
  rw [setCell_row k.head, setRow_heap w _ _ _ _ (0, 0) k.head]
  rfl
/-! ### Size, bucket -/
theorem size_calls (k : TM w a t n H cnt) : Calls Try.prog 34 #[(.pointer (some ⟨t.b, 0, none⟩))] w fun e w' => e = .returned (.tuple #[.int .i64 n, .int .i64 cnt]) ∧ Dr w w' := by
  have c1 := k.c1
  have c2 := k.c2
  clear k
  go_enter Try.func34, Try.ntmps34
  go_wp2_with fail
  go_quiet (fail)
  go_wp2_with fail
  go_ret2
  exact ⟨rfl, (Dr.refl w).step nq⟩
def hbS (n : Nat) (key : ByteArray) : Nat := (num key % (n : Int)).toNat
theorem hbS_int (hn : Pow n) (key : ByteArray) : num key % (n : Int) = (hbS n key : Int) := by
  have := hn.range
  unfold hbS
  have h1 := Int.emod_nonneg (num key) (show (n : Int) ≠ 0 by omega)
  omega
theorem hbS_lt (hn : Pow n) (key : ByteArray) : hbS n key < n := by
  have := hn.range
  have h1 := hbS_int hn key
  have h2 := Int.emod_lt_of_pos (num key) (show (0 : Int) < n by omega)
  omega
theorem tbucket_calls (k : TM w a t n H cnt) (hn : Pow n) (key : ByteArray) (hk : key.size ≤ 9223372036854775807) : Calls Try.prog 76 #[(.pointer (some ⟨t.b, 0, none⟩)), .string key] w fun e w' => e = .returned (.int .i64 (hbS n key)) ∧ Dr w w' := by
  have c1 := k.c1
  have nr := num_range key
  have S := Lib.hid (fun W => sum_calls key W hk)
  have B := fun W => bucket_calls (num key) n W nr.1 nr.2 (by have := k.most; omega) (by have := k.most; omega)
  have e : bucketP (num key) n = ((hbS n key : Int), 0) := by unfold bucketP; rw [if_pos hn, hbS_int hn key]
  rw [e] at B
  replace B := Lib.hid B
  generalize num key = x at S B
  generalize hbS n key = y at B
  clear k nr e hn
  go_enter Try.func76, Try.ntmps76
  go_wp2_with fail
  go_quiet (first | (go_at_call 104; exact Calls.quiet_of_same (S.out _)) | (go_at_call 73; exact Calls.quiet_of_same (B.out _)))
  go_wp2_with fail
  go_ret
  exact ⟨rfl, (Dr.refl w).step nq⟩
end Go.Proofs.Ytolpjgpimholcaa.Assoc

/- The walks of chapter 10's table: what leads through a bucket, a function to range over. -/
namespace Go.Proofs.Ytolpjgpimholcaa.Assoc
open Go Go.RowKit Go.Shelf Go.Proofs.Ytolpjgpimholcaa.Mem Go.Proofs.Ytolpjgpimholcaa.CodecPure Go.Proofs.Ytolpjgpimholcaa.ArenaPure Go.Proofs.Ytolpjgpimholcaa.Codec Go.Proofs.Ytolpjgpimholcaa.Arena Go.Proofs.Ytolpjgpimholcaa.Item Go.Proofs.Ytolpjgpimholcaa.Fnv
set_option linter.unusedVariables false
set_option maxRecDepth 100000
attribute [local go_sem] Oper.semAt_some
variable {w w' : World} {a : Ar} {t : Th} {n cnt : Nat} {H : List Int} {s : St} {nx : Nat → Int} {L : Nat → List Nat}
/-- a table in its arena -/
structure TL (w : World) (a : Ar) (t : Th) (s : St) (nx : Nat → Int) (n : Nat) (H : List Int) (L : Nat → List Nat) : Prop where
  lies : Lies w a s
  ns : NS s nx
  tm : TM w a t n H (total L n)
  ti : TI nx n H L
theorem TL.fresh (k : TL w a t s nx n H L) (hc : Chg (fun _ => False) w w') : TL w' a t s nx n H L := ⟨k.lies.chg hc id id fun _ _ => id, k.ns, k.tm.fresh hc, k.ti⟩
/-- an item of a bucket, and what leads to it -/
abbrev El := Fin 30 × Int
def el (k : Nat) (p : Int) : El := (Fin.ofNat 30 k, p)
theorem el_val {k : Nat} (hk : k < 30) (p : Int) : ((el k p).1.val : Int) = k := by
  show ((k % 30 : Nat) : Int) = k
  rw [Nat.mod_eq_of_lt hk]
/-- a bucket's items, each with what leads to it -/
def prs : Int → List Nat → List El
  | _, [] => []
  | p, k :: l => el k p :: prs (64 * (k : Int)) l
def lastP (p : Int) : List Nat → Int
  | [] => p
  | k :: l => lastP (64 * (k : Int)) l
theorem prs_length (l : List Nat) : ∀ p, (prs p l).length = l.length := by
  induction l with
  | nil => intro p; rfl
  | cons k l ih => intro p; show (prs _ l).length + 1 = _; rw [ih]; rfl
theorem prs_append (A C : List Nat) : ∀ p, prs p (A ++ C) = prs p A ++ prs (lastP p A) C := by
  induction A with
  | nil => intro p; rfl
  | cons k A ih => intro p; show el k p :: prs _ (A ++ C) = el k p :: (prs _ A ++ _); rw [ih]; rfl
theorem lastP_snoc (A : List Nat) (k : Nat) : ∀ p, lastP p (A ++ [k]) = 64 * (k : Int) := by
  induction A with
  | nil => intro p; rfl
  | cons j A ih => intro p; exact ih _
/-- a beginning of the pairs is that of the items -/
theorem prs_prefix {l : List Nat} : ∀ {p : Int} {pre : List El}, pre <+: prs p l → ∃ A C, l = A ++ C ∧ pre = prs p A := by
  induction l with
  | nil => intro p pre h; exact ⟨[], [], rfl, List.prefix_nil.1 h⟩
  | cons k l ih =>
    intro p pre h
    cases pre with
    | nil => exact ⟨[], k :: l, rfl, rfl⟩
    | cons x pre =>
      obtain ⟨e, h2⟩ := List.cons_prefix_cons.1 h
      obtain ⟨A, C, h3, h4⟩ := ih h2
      exact ⟨k :: A, C, by rw [h3]; rfl, by subst e; show _ = el k p :: prs _ A; rw [h4]⟩
/-- how many items are still to come -/
def toCome (l : List Nat) : Value → Nat
  | .int _ x => if 0 ≤ x ∧ (x / 64).toNat ∈ l then l.length - l.idxOf (x / 64).toNat else 0
  | _ => 0
theorem toCome_int (l : List Nat) (x : Int) : toCome l (.int .i64 x) = if 0 ≤ x ∧ (x / 64).toNat ∈ l then l.length - l.idxOf (x / 64).toNat else 0 := rfl
theorem idx_mid {A : List Nat} {x : Nat} {C : List Nat} (h : x ∉ A) : (A ++ x :: C).idxOf x = A.length := by
  induction A with
  | nil => simp
  | cons y A ih =>
    simp only [List.mem_cons, not_or] at h
    rw [List.cons_append, List.idxOf_cons, ih h.2]
    have : (y == x) = false := by rw [beq_eq_false_iff_ne]; exact fun e => h.1 e.symm
    rw [this]; rfl
theorem toCome_at {A : List Nat} {x : Nat} {C : List Nat} (h : (A ++ x :: C).Nodup) : toCome (A ++ x :: C) (.int .i64 (64 * (x : Int))) = C.length + 1 := by
  have hx : x ∉ A := fun hm => (List.nodup_append.1 h).2.2 x hm x (by simp) rfl
  have e : (64 * (x : Int) / 64).toNat = x := by omega
  rw [toCome_int, e, if_pos ⟨by omega, by simp⟩, idx_mid hx, List.length_append, List.length_cons]; omega
theorem toCome_less {A : List Nat} {x : Nat} {C : List Nat} (h : (A ++ x :: C).Nodup) : toCome (A ++ x :: C) (.int .i64 (headI C)) < toCome (A ++ x :: C) (.int .i64 (64 * (x : Int))) := by
  rw [toCome_at h]
  cases C with
  | nil =>
    show toCome _ (.int .i64 (-1)) < _
    rw [toCome_int, if_neg fun q => by omega]; simp
  | cons y C =>
    have e : A ++ x :: y :: C = (A ++ [x]) ++ y :: C := by simp
    show toCome _ (.int .i64 (64 * (y : Int))) < _
    rw [e] at h ⊢
    rw [toCome_at h, List.length_cons]; omega
theorem grown_of_chg (hc : Chg (fun _ => False) w w') : w.grownBy w' none := ⟨hc.os, hc.tape, hc.output, hc.size, fun b hb _ => hc.block b hb id⟩
/-- what a round keeps: all that lay below n₀, and the boxes B1, B2 -/
def Kp (n₀ B1 B2 : Nat) (A B : World) : Prop := Below n₀ A B ∧ B.heap[B1]? = A.heap[B1]? ∧ B.heap[B2]? = A.heap[B2]?
theorem Kp.trans {n₀ B1 B2 : Nat} {A B C : World} (h : Kp n₀ B1 B2 A B) (k : Kp n₀ B1 B2 B C) : Kp n₀ B1 B2 A C := ⟨h.1.trans k.1, k.2.1.trans h.2.1, k.2.2.trans h.2.2⟩
theorem Kp.refl (n₀ B1 B2 : Nat) (A : World) : Kp n₀ B1 B2 A A := ⟨Below.refl _ _, rfl, rfl⟩
theorem Kp.cell {n₀ B1 B2 : Nat} {A B : World} (h : Kp n₀ B1 B2 A B) : B.cell? ⟨B1, 0, none⟩ = A.cell? ⟨B1, 0, none⟩ := by
  unfold World.cell?
  rw [h.2.1]
theorem Kp.of_chg {n₀ B1 B2 : Nat} {A B : World} (hc : Chg (fun _ => False) A B) (hn : n₀ ≤ A.heap.size) (h1 : B1 < A.heap.size) (h2 : B2 < A.heap.size) : Kp n₀ B1 B2 A B :=
  ⟨⟨hc.os, hc.tape, hc.output, hc.size, fun b hb => hc.block b (Nat.lt_of_lt_of_le hb hn) id⟩, hc.block B1 h1 id, hc.block B2 h2 id⟩
def ev (e : El) : Array Value := #[.int .i64 (64 * (e.1.val : Int)), .int .i64 e.2]
set_option maxHeartbeats 1000000 in
/-- chain's function: for every body that keeps what lay below n₀ -/
theorem chain1_in (m : Nat) (hn : 1 ≤ m) (b : Nat) (hb : b < n) (l B1 B2 n₀ : Nat) (J Jx : List El → World → Prop)
    (GC : ∀ W (x : Nat) (C A : List Nat), Chg (fun _ => False) w W → L b = A ++ x :: C → CallsIn Fence.wide (m - 1) Try.prog 23 #[(.pointer (some ⟨a.g, 0, none⟩)), (.int .i64 (64 * (x : Int))), (.int .i64 0)] W (Ans2 W (headI C) 0))
    (W : World) (hJ : AbidesFrom W.heap.size J) (hn₀ : w.heap.size ≤ n₀) (hn₁ : n₀ ≤ W.heap.size)
    (hY : ∀ pre x W, J pre W → pre.length < (L b).length → YieldAt Fence.wide (m - 1) Try.prog l (ev x) W fun e W' =>
      (e = .returned (.bool true) ∧ J (pre ++ [x]) W' ∧ Kp n₀ B1 B2 W W') ∨ (e = .returned (.bool false) ∧ Jx (pre ++ [x]) W'))
    (hB1 : B1 < W.heap.size) (hB2 : B2 < W.heap.size) (hc : W.cell? ⟨B1, 0, none⟩ = some (.pointer (some ⟨t.b, 0, none⟩))) (hc2 : W.cell? ⟨B2, 0, none⟩ = some (.int .i64 b)) (k : TL w a t s nx n H L) (hW : Chg (fun _ => False) w W) (h0 : J [] W) :
    CallsIn Fence.wide m Try.prog 105 #[.func (.yield l) #[] #[], (.pointer (some ⟨B1, 0, none⟩)), (.pointer (some ⟨B2, 0, none⟩))] W fun e W' => (∃ v, e = .returned v) ∧
      ((∃ ys, ys = prs (-1) (L b) ∧ J ys W') ∨ (∃ pre, pre <+: prs (-1) (L b) ∧ Jx pre W')) := by
  have hnd := k.ti.nodup b hb
  have hlt30 := fun x (hx : x ∈ L b) => (k.ti.mem b hb x hx).1
  have lq := blk_lt k.tm.head
  have kW := k.fresh hW
  have c1 := kW.tm.c1
  have ch := kW.tm.h hb
  rw [k.ti.heads b hb] at ch
  have hnW : ∀ W', Below n₀ W W' → TL W' a t s nx n H L ∧ Chg (fun _ => False) w W' := fun W' hb => by
    have : Chg (fun _ => False) w W' := ⟨hb.os.trans hW.os, hb.tape.trans hW.tape, hb.output.trans hW.output, Nat.le_trans hW.size hb.size, fun b hb' _ => (hb.block b (by omega)).trans (hW.block b hb' id)⟩
    exact ⟨k.fresh this, this⟩
  replace GC := Lib.hid GC
  replace hnW := Lib.hid hnW
  replace hY := Lib.hid hY
  replace hJ := Lib.hid hJ
  replace hlt30 := Lib.hid hlt30
  refine callsIn_of_wp Try.func105 rfl trivial ?_ rfl
  simp only [Try.ntmps105, List.size_toArray, List.length_cons, List.length_nil, Nat.reduceAdd, Nat.reduceSub, Array.replicate_succ, Array.replicate_zero, List.push_toArray, List.append_toArray, List.nil_append, List.cons_append]
  generalize hl : L b = lb at ch GC hnd hlt30 hY
  replace hl := Lib.hid hl
  have bn : b < n := hb
  clear kW k
  gi_wp2
  gi_quiet (fail)
  have KD : Hid (Kp n₀ B1 B2 W (W.drewN nq)) := Kp.of_chg (Chg.drewN _ _ _) hn₁ hB1 hB2
  have JD : Hid (J [] (W.drewN nq)) := hJ.out _ _ _ none h0 (grown_of_chg (Chg.drewN _ _ _)) (fun r e => by cases e)
  have hl0 : Hid (lb = [] ++ lb) := rfl
  clear ch h0 c1
  gi_wp2
  gi_loopw [4, 5] (fun q p wr => ∃ (A C : List Nat), q = .int .i64 (lastP (-1) A) ∧ p = .int .i64 (headI C) ∧ lb = A ++ C ∧ Kp n₀ B1 B2 W wr ∧ J (prs (-1) A) wr) (fun q p wr => toCome lb p)
  case atStart =>
    exact ⟨[], lb, rfl, rfl, hl0.out, KD.out, JD.out⟩
  case round =>
    clear KD JD hl0
    obtain ⟨A, C, rfl, rfl, hx, hk, hJs⟩ := hrel
    cases C with
    | nil =>
      have hd : headI [] = -1 := rfl
      rw [hd]
      clear hd hnd GC hnW hY
      replace hx := Lib.hid hx
      gi_wp2
      refine ⟨fun _ h => (by cases h), ?_⟩
      gi_wp2
      go_end0
      exact ⟨⟨_, rfl⟩, .inl ⟨prs (-1) A, by rw [hx.out, List.append_nil], hJs⟩⟩
    | cons x C =>
      have hd : headI (x :: C) = 64 * (x : Int) := rfl
      have t1 : (64 * (x : Int) != -1) = true := by rw [bne_iff_ne]; omega
      have x30 : x < 30 := hlt30.out x (by rw [hx]; simp)
      have yy := hY.out (prs (-1) A) (el x (lastP (-1) A)) wr hJs (by rw [prs_length, hx]; simp)
      have eE : ev (el x (lastP (-1) A)) = #[.int .i64 (64 * (x : Int)), .int .i64 (lastP (-1) A)] := by
        unfold ev
        rw [el_val x30]; rfl
      rw [eE] at yy
      obtain ⟨fn, tmps, assign, body, hy, hR⟩ := yy
      replace hR := Lib.hid hR
      have hpq : prs (-1) (A ++ [x]) = prs (-1) A ++ [el x (lastP (-1) A)] := by rw [prs_append]; rfl
      have hlq : lastP (-1) (A ++ [x]) = 64 * (x : Int) := lastP_snoc A x (-1)
      rw [hd]
      replace hpq := Lib.hid hpq
      replace hlq := Lib.hid hlq
      clear hd eE
      replace hx := Lib.hid hx
      gi_wp2
      refine hR.out.mono ?_
      rintro e W3 (⟨rfl, hJ3, hk3⟩ | ⟨rfl, hJx3⟩)
      · obtain ⟨k3, f3⟩ := hnW.out W3 (hk.trans hk3).1
        have d1 : W3.cell? ⟨B1, 0, none⟩ = some (.pointer (some ⟨t.b, 0, none⟩)) := (hk.trans hk3).cell.trans hc
        have d0 := k3.tm.c0
        have C3 := GC.out W3 x C A f3 hx.out
        have hlt := toCome_less (by rw [← hx.out]; exact hnd)
        rw [← hx.out] at hlt
        have J3 := Lib.hid hJ3
        have K3 := Lib.hid (hk.trans hk3)
        clear k3 f3 hk3 hk hJ3 hJs hc hc2 hnd GC hY hR hnW
        generalize hnx : headI C = nxt at C3 hlt
        replace hnx := Lib.hid hnx
        replace hlt := Lib.hid hlt
        gi_wp2_with fail
        try refine ⟨trivial, ?_⟩
        refine C3.mono ?_
        rintro e w4 ⟨rfl, f4⟩
        have F4 := Lib.hid f4
        clear f4 C3 d1 d0
        gi_wp2
        go_roundw
        case rel => exact ⟨A ++ [x], C, by rw [hlq.out], by rw [hnx.out], by rw [hx.out]; simp, K3.out.trans (Kp.of_chg F4.out (Nat.le_trans hn₁ K3.out.1.size) (Nat.lt_of_lt_of_le hB1 K3.out.1.size) (Nat.lt_of_lt_of_le hB2 K3.out.1.size)), by rw [hpq.out]; exact hJ.out _ _ _ none J3.out (grown_of_chg F4.out) (fun r e => by cases e)⟩
        case measure => exact hlt.out
      · clear hnd GC hnW hY hR
        gi_wp2
        go_end0
        exact ⟨⟨_, rfl⟩, .inr ⟨prs (-1) A ++ [el x (lastP (-1) A)], ⟨prs (64 * (x : Int)) C, by rw [hx.out, prs_append]; show _ = prs (-1) A ++ (el x (lastP (-1) A) :: prs (64 * (x : Int)) C); simp⟩, hJx3⟩⟩
theorem chain_calls (b1 : Nat) (i : Int) (w : World) : Calls Try.prog 78 #[(.pointer (some ⟨b1, 0, none⟩)), (.int .i64 i)] w fun e w' => e = .returned (.func (.func 105) #[] #[(.pointer (some ⟨w.heap.size, 0, none⟩)), (.pointer (some ⟨w.heap.size + 1, 0, none⟩))]) ∧ w' = (w.alloc (.cells #[(.pointer (some ⟨b1, 0, none⟩))] 56)).alloc (.cells #[(.int .i64 i)] 3) := by
  go_enter Try.func78, Try.ntmps78
  go_wp2
  go_ret
  exact ⟨rfl, rfl⟩
theorem chain_stops (m : Nat) (hn : 1 ≤ m) (b : Nat) (hb : b < n) (B1 B2 n₀ : Nat) (w1 : World)
    (GC : ∀ W (x : Nat) (C A : List Nat), Chg (fun _ => False) w W → L b = A ++ x :: C → CallsIn Fence.wide (m - 1) Try.prog 23 #[(.pointer (some ⟨a.g, 0, none⟩)), (.int .i64 (64 * (x : Int))), (.int .i64 0)] W (Ans2 W (headI C) 0))
    (hn₀ : w.heap.size ≤ n₀) (hB1 : B1 < w1.heap.size) (hB2 : B2 < w1.heap.size) (h1 : n₀ ≤ w1.heap.size) (hc : w1.cell? ⟨B1, 0, none⟩ = some (.pointer (some ⟨t.b, 0, none⟩))) (hc2 : w1.cell? ⟨B2, 0, none⟩ = some (.int .i64 b)) (k : TL w a t s nx n H L) (hw : Chg (fun _ => False) w w1) :
    SeqStopsK Fence.wide m Try.prog 105 #[(.pointer (some ⟨B1, 0, none⟩)), (.pointer (some ⟨B2, 0, none⟩))] ev (Kp n₀ B1 B2) (fun ys => ys = prs (-1) (L b)) (fun pre => pre <+: prs (-1) (L b)) (L b).length w1 := fun l J Jx W hW hJ _ hY h0 =>
  chain1_in m hn b hb l B1 B2 n₀ J Jx GC W hJ hn₀ (Nat.le_trans h1 hW.size) hY (Nat.lt_of_lt_of_le hB1 hW.size) (Nat.lt_of_lt_of_le hB2 hW.size) ((hW.cell (p := ⟨B1, 0, none⟩) hB1).trans hc) ((hW.cell (p := ⟨B2, 0, none⟩) hB2).trans hc2) k (hw.trans (Chg.of_below hW)) h0
end Go.Proofs.Ytolpjgpimholcaa.Assoc

/- The walks of chapter 10's table: a bucket's items; the item with a key. -/
namespace Go.Proofs.Ytolpjgpimholcaa.Assoc
open Go Go.RowKit Go.Shelf Go.Proofs.Ytolpjgpimholcaa.Mem Go.Proofs.Ytolpjgpimholcaa.CodecPure Go.Proofs.Ytolpjgpimholcaa.ArenaPure Go.Proofs.Ytolpjgpimholcaa.Codec Go.Proofs.Ytolpjgpimholcaa.Arena Go.Proofs.Ytolpjgpimholcaa.Item Go.Proofs.Ytolpjgpimholcaa.Fnv
set_option linter.unusedVariables false
set_option maxRecDepth 100000
attribute [local go_sem] Oper.semAt_some
variable {w w' : World} {a : Ar} {t : Th} {n cnt : Nat} {H : List Int} {s : St} {nx : Nat → Int} {L : Nat → List Nat}
theorem info_int' : (Try.prog.info? 3).map (fun i => (i.zero, i.size, i.bytes)) = some (some (.int .i64 0), 1, 8) := by kernel_rfl
/-- where a bucket's items lie -/
def pls (l : List Nat) : List Int := l.map fun (k : Nat) => 64 * (k : Int)
theorem pls_el {l : List Nat} (h : ∀ k ∈ l, k < 30) : ∀ p, (prs p l).map (fun e => 64 * (e.1.val : Int)) = pls l := by
  induction l with
  | nil => intro p; rfl
  | cons k l ih =>
    intro p
    show 64 * ((el k p).1.val : Int) :: (prs _ l).map _ = 64 * (k : Int) :: pls l
    rw [el_val (h k (by simp)), ih fun j hj => h j (by simp [hj])]
theorem nodup_len : ∀ (m : Nat) (l : List Nat), l.Nodup → (∀ x ∈ l, x < m) → l.length ≤ m
  | 0, l, _, h => by
    cases l with
    | nil => exact Nat.le_refl _
    | cons x l => exact absurd (h x (by simp)) (by omega)
  | m + 1, l, hn, h => by
    have := nodup_len m (l.erase m) (hn.erase m) fun x hx => by
      have h1 := h x (List.mem_of_mem_erase hx)
      have h2 : x ≠ m := ((List.Nodup.mem_erase_iff hn).1 hx).1
      omega
    rw [List.length_erase] at this
    split at this <;> omega
theorem TL.gets (k : TL w a t s nx n H L) {b : Nat} (hb : b < n) (W : World) (x : Nat) (C A : List Nat) (hc : Chg (fun _ => False) w W) (hx : L b = A ++ x :: C) : Calls Try.prog 23 #[(.pointer (some ⟨a.g, 0, none⟩)), (.int .i64 (64 * (x : Int))), (.int .i64 0)] W (Ans2 W (headI C) 0) := by
  have x30 := (k.ti.mem b hb x (by rw [hx]; simp)).1
  have hn : nx x = headI C := by
    have := k.ti.chain b hb
    rw [hx] at this
    exact this.at
  have := get_calls (k.fresh hc).lies (64 * (x : Int)) 0 (by omega)
  rw [k.ns.nx x x30, hn] at this
  exact this
set_option maxHeartbeats 2000000 in
theorem firsts_calls (k : TL w a t s nx n H L) {b : Nat} (hb : b < n) (B1 B2 : Nat) (hc : w.cell? ⟨B1, 0, none⟩ = some (.pointer (some ⟨t.b, 0, none⟩))) (hc2 : w.cell? ⟨B2, 0, none⟩ = some (.int .i64 b)) :
    Calls Try.prog 77 #[.func (.func 105) #[] #[(.pointer (some ⟨B1, 0, none⟩)), (.pointer (some ⟨B2, 0, none⟩))]] w (fun e w' => ∃ v, e = .returned v ∧ Mem.Own w' w.heap.size 3 .i64 v (pls (L b)) ∧ Chg (fun _ => False) w w') := by
  have GC := fun W x C A h1 h2 => k.gets hb W x C A h1 h2
  have h30 : ∀ x ∈ L b, x < 30 := fun x hx => (k.ti.mem b hb x hx).1
  have hlen : (L b).length ≤ 30 := by
    have := k.ti.nodup b hb
    exact nodup_len 30 (L b) this h30
  have l1 : B1 < w.heap.size := World.block_lt_of_cell? w _ hc
  have l2 : B2 < w.heap.size := World.block_lt_of_cell? w _ hc2
  refine (callsIn_wide (n := 3)).1 ?_
  obtain ⟨i0, hi, hz0, hz1, hz2⟩ := info_parts info_int'
  refine callsIn_of_wp_marks Try.func77 rfl trivial ?_ rfl
  simp only [Try.ntmps77, List.size_toArray, List.length_cons, List.length_nil, Nat.reduceAdd, Nat.reduceSub, Array.replicate_succ, Array.replicate_zero, List.push_toArray, List.append_toArray, List.nil_append, List.cons_append]
  gi_wp2
  have bO := Boxed.new w 27 (.slice none 0 0)
  have hB0 : Below w.heap.size w (w.alloc (.cells #[.slice none 0 0] 27)) := (Below.refl _ w).alloc (Nat.le_refl _) _
  have hst := chain_stops 2 (by decide) b hb B1 B2 w.heap.size (w.alloc (.cells #[.slice none 0 0] 27)) (fun W x C A hc hx => callsIn_wide.2 (GC W x C A hc hx)) (Nat.le_refl _) (by simp; omega) (by simp; omega) (by simp) ((World.cell?_alloc_lt w _ _ l1).trans hc) ((World.cell?_alloc_lt w _ _ l2).trans hc2) k (Chg.of_below hB0)
  refine wpIn_rangeFunc_ownG rfl (by decide) (gf := 105) (lb := #[(.pointer (some ⟨B1, 0, none⟩)), (.pointer (some ⟨B2, 0, none⟩))]) rfl trivial (enters_of Try.func105 (by kernel_rfl) rfl) hst
    (fun h k => h.trans k) (fun W l o o' hl h1 h2 h3 => ⟨belowK_b (w := w.alloc (.cells #[.slice none 0 0] 27)) (by simp) W l o o' hl h1 h2 h3, World.putObj_heap_other (by simp at hl; omega), World.putObj_heap_other (by simp at hl; omega)⟩) (Below.refl _ _) (fun _ => rfl)
    (fun (pre : List El) W => (∃ v, Boxed W w.heap.size 27 v ∧ W.ownsRow w.heap.size 3 1 v pre.length (nums .i64 (pre.map fun (e : El) => 64 * (e.1.val : Int))) ∧ True) ∧ Below w.heap.size w W)
    (fun _ _ _ => False)
    (OwnFrom.and (Own.from (holdsRow_own w.heap.size w.heap.size 27 3 1 (fun (pre : List El) => pre.length) (fun (pre : List El) => nums .i64 (pre.map fun (e : El) => 64 * (e.1.val : Int))) (fun (pre : List El) v => True)) _) (ownFrom_below (Nat.le_refl _) (by simp)))
    (fun _ _ _ _ _ hs _ _ => hs)
    ⟨⟨_, bO, World.ownsRow_nil _ _ _ _, trivial⟩, hB0⟩
    (fun (x : El) => { tmps := #[.func (.func 105) #[] #[(.pointer (some ⟨B1, 0, none⟩)), (.pointer (some ⟨B2, 0, none⟩))], undef, .slice none 0 0, (.pointer (some ⟨w.heap.size, 0, none⟩)), (.int .i64 (64 * (x.1.val : Int))), .func (.func 105) #[] #[(.pointer (some ⟨B1, 0, none⟩)), (.pointer (some ⟨B2, 0, none⟩))], (.int .i64 (64 * (x.1.val : Int))), (.int .i64 x.2), undef, undef, undef, undef, undef], defers := [] }) ?assign ?body ?done ?stop
  case assign =>
    intro l x W K hK
    unfold ev
    gi_wp2
    exact hK
  case body =>
    rintro l pre x W ⟨⟨v, hv, hrow, -⟩, hB⟩ hlt
    have hc := hv.cell
    have hpl : pre.length + 1 ≤ maxLen ∧ (pre.length + 1) * 8 ≤ 140737488355328 := ⟨by unfold maxLen; omega, by omega⟩
    clear hst bO hB0 GC k
    gi_wp2_with (gi_at_builtin; refine wpListIn_append_own _ rfl _ _ 27 rfl w.heap.size 3 i0 (.int .i64 0) 1 8 Try.underlying27 hi hz0 hz1 hz2 rfl (by decide) _ _ _ rfl (hrow.alloc _) ⟨W.heap.size, 0, none⟩ 1 1 [.int .i64 (64 * (x.1.val : Int))] rfl rfl (cell_one_new _ _ _) (by simp [Value.oneCell']) hpl.1 hpl.2 (by have := hB.size; simp; omega) ?_; intro v' w1 hown' hgrow _; obtain ⟨g', cap', rfl⟩ := ownsRow_succ hown'; obtain ⟨hv1, hv2, hr2, hk2, hb2⟩ := hv.appended (by decide) hrow hB.size (Nat.le_refl _) hown' hgrow; have hc1 := hv1.cell; have hf1 := hv1.frozen)
    exact ⟨hk2.from _, ⟨hb2, hb2.block B1 l1, hb2.block B2 l2⟩, ⟨_, hv2, by rw [List.length_append, List.length_singleton, List.map_append, nums_append]; exact hr2, trivial⟩, hB.trans hb2⟩
  case done =>
    rintro D ys W hD rfl ⟨⟨v, hv, hrow, -⟩, hB⟩ hK
    have hc := hv.cell
    rw [pls_el h30, prs_length, ← (show (pls (L b)).length = (L b).length from List.length_map _)] at hrow
    gi_wp2
    refine ⟨by simp, .inl ⟨_, _, rfl, run_takeDeferred hK, ?_⟩⟩
    exact ⟨_, results_tmp rfl _ _ _, v, rfl, ownsRow_putObj hrow _ hK rfl, Chg.of_below (hB.trans (belowK_b (w := w) (Nat.le_refl _) W D _ _ (by simp at hD; omega) hK rfl rfl))⟩
  case stop =>
    rintro D c pre W _ _ h _
    exact h.elim
end Go.Proofs.Ytolpjgpimholcaa.Assoc

/- The walks of chapter 10's table: the item with a key. -/
namespace Go.Proofs.Ytolpjgpimholcaa.Assoc
open Go Go.RowKit Go.Shelf Go.Proofs.Ytolpjgpimholcaa.Mem Go.Proofs.Ytolpjgpimholcaa.CodecPure Go.Proofs.Ytolpjgpimholcaa.ArenaPure Go.Proofs.Ytolpjgpimholcaa.Codec Go.Proofs.Ytolpjgpimholcaa.Arena Go.Proofs.Ytolpjgpimholcaa.Item Go.Proofs.Ytolpjgpimholcaa.Fnv
set_option linter.unusedVariables false
set_option maxRecDepth 100000
attribute [local go_sem] Oper.semAt_some
variable {w w' : World} {a : Ar} {t : Th} {n cnt : Nat} {H : List Int} {s : St} {nx : Nat → Int} {L : Nat → List Nat}
/-- the item with a key among a bucket's, and what leads to it -/
def fnd (key : ByteArray) : Int → List Nat → Option (Nat × Int)
  | _, [] => none
  | p, k :: l => if keyS k = key then some (k, p) else fnd key (64 * (k : Int)) l
theorem fnd_none {key : ByteArray} {l : List Nat} (h : ∀ k ∈ l, keyS k ≠ key) : ∀ p, fnd key p l = none := by
  induction l with
  | nil => intro p; rfl
  | cons k l ih => intro p; show (if _ then _ else _) = _; rw [if_neg (h k (by simp)), ih fun j hj => h j (by simp [hj])]
theorem fnd_some {key : ByteArray} {A C : List Nat} {k : Nat} (h : ∀ j ∈ A, keyS j ≠ key) (hk : keyS k = key) : ∀ p, fnd key p (A ++ k :: C) = some (k, lastP p A) := by
  induction A with
  | nil => intro p; show (if _ then _ else _) = _; rw [if_pos hk]; rfl
  | cons j A ih =>
    intro p
    show (if keyS j = key then _ else fnd key _ (A ++ k :: C)) = _
    rw [if_neg (h j (by simp)), ih fun i hi => h i (by simp [hi])]; rfl
theorem box_from {W W' : World} {row : Option Nat} {B0 B : Nat} {ty : TypeId} {v : Value} (h : Boxed W B ty v) (hg : W.grownBy W' row) (hB : B < B0) (hr : ∀ r, row = some r → B0 ≤ r ∧ ∃ o : Obj, W.heap[r]? = some o ∧ o.isCells = false) : Boxed W' B ty v :=
  h.kept hg fun e => by have := (hr B e.symm).1; omega
theorem keeps_of_chg {W W' : World} (B : Nat) (hc : Chg (fun _ => False) W W') : KeepsFrom B W W' := by
  exact ⟨hc.size, fun k o _ h _ => (hc.block k (Array.getElem?_eq_some_iff.1 h).1 id).trans h⟩
theorem keeps_set {W W1 : World} {B g : Nat} {v : Value} (h : KeepsFrom B W W1) (hg : g < B) : KeepsFrom B W (W1.setCell ⟨g, 0, none⟩ v) :=
  ⟨by simp [World.setCell]; exact h.size, fun k o hk h1 h2 => (Below.heap_setCell W1 ⟨g, 0, none⟩ v k (by show k ≠ g; omega)).trans (h.same k o hk h1 h2)⟩
theorem results_cells3 {P : Program} {fn : Func} {p1 p2 p3 : Tmp} {t1 t2 t3 : TypeId} (h : fn.results = #[.cell p1 t1, .cell p2 t2, .cell p3 t3]) {tmps : Array Value} {w : World} {g1 g2 g3 : Nat} {v1 v2 v3 : Value}
    (h1 : tmps[p1]?.getD undef = .pointer (some ⟨g1, 0, none⟩)) (h2 : tmps[p2]?.getD undef = .pointer (some ⟨g2, 0, none⟩)) (h3 : tmps[p3]?.getD undef = .pointer (some ⟨g3, 0, none⟩))
    (l1 : (loadVar t1 ⟨g1, 0, none⟩).run P w = .ok v1 w) (l2 : (loadVar t2 ⟨g2, 0, none⟩).run P w = .ok v2 w) (l3 : (loadVar t3 ⟨g3, 0, none⟩).run P w = .ok v3 w) : (results fn tmps).run P w = .ok (.tuple #[v1, v2, v3]) w := by
  simp [results, h, h1, h2, h3, asAddr, l1, l2, l3]
theorem mem_prs {l : List Nat} {k : Nat} (hk : k ∈ l) (h30 : ∀ x ∈ l, x < 30) : ∀ p, ∃ e ∈ prs p l, e.1.val = k := by
  induction l with
  | nil => simp at hk
  | cons j l ih =>
    intro p
    by_cases e : k = j
    · subst e
      refine ⟨el k p, List.mem_cons_self, ?_⟩
      have := el_val (h30 k (by simp)) p
      omega
    · obtain ⟨x, h1, h2⟩ := ih (by rcases List.mem_cons.1 hk with h | h; exact absurd h e; exact h) (fun x hx => h30 x (by simp [hx])) (64 * (j : Int))
      exact ⟨x, List.mem_cons_of_mem _ h1, h2⟩
theorem prs_mem {l : List Nat} {k : Nat} (hk : k ∈ l) (h30 : ∀ x ∈ l, x < 30) {Q : Nat → Prop} {p : Int} (h : ∀ e ∈ prs p l, Q e.1.val) : Q k := by
  obtain ⟨e, h1, h2⟩ := mem_prs hk h30 p
  rw [← h2]; exact h e h1
/-- the boxes of find -/
def W5 (w : World) (b : Nat) (key : ByteArray) : World := ((((w.alloc (.cells #[(.pointer (some ⟨b, 0, none⟩))] 56)).alloc (.cells #[.string key] 9)).alloc (.cells #[.int .i64 0] 3)).alloc (.cells #[.int .i64 0] 3)).alloc (.cells #[.bool false] 4)
structure B5 (w : World) (g g3 g4 g5 g6 b : Nat) (key : ByteArray) : Prop where
  b2 : Boxed w g 56 (.pointer (some ⟨b, 0, none⟩))
  b3 : Boxed w g3 9 (.string key)
  b4 : Boxed w g4 3 (.int .i64 0)
  b5 : Boxed w g5 3 (.int .i64 0)
  b6 : Boxed w g6 4 (.bool false)
theorem w5_all (w : World) (b : Nat) (key : ByteArray) : B5 (W5 w b key) w.heap.size (w.heap.size + 1) (w.heap.size + 1 + 1) (w.heap.size + 1 + 1 + 1) (w.heap.size + 1 + 1 + 1 + 1) b key ∧ Chg (fun _ => False) w (W5 w b key) ∧ (W5 w b key).heap.size = w.heap.size + 1 + 1 + 1 + 1 + 1 := by
  have b2 := Boxed.new w 56 (.pointer (some ⟨b, 0, none⟩))
  have b3 := Boxed.new (w.alloc (.cells #[(.pointer (some ⟨b, 0, none⟩))] 56)) 9 (.string key)
  have b4 := Boxed.new ((w.alloc (.cells #[(.pointer (some ⟨b, 0, none⟩))] 56)).alloc (.cells #[.string key] 9)) 3 (.int .i64 0)
  have b5 := Boxed.new (((w.alloc (.cells #[(.pointer (some ⟨b, 0, none⟩))] 56)).alloc (.cells #[.string key] 9)).alloc (.cells #[.int .i64 0] 3)) 3 (.int .i64 0)
  have b6 := Boxed.new ((((w.alloc (.cells #[(.pointer (some ⟨b, 0, none⟩))] 56)).alloc (.cells #[.string key] 9)).alloc (.cells #[.int .i64 0] 3)).alloc (.cells #[.int .i64 0] 3)) 4 (.bool false)
  simp only [World.size_alloc] at b3 b4 b5 b6
  exact ⟨⟨((((b2.alloc (.cells #[.string key] 9)).alloc (.cells #[.int .i64 0] 3)).alloc (.cells #[.int .i64 0] 3)).alloc (.cells #[.bool false] 4)),
    (((b3.alloc (.cells #[.int .i64 0] 3)).alloc (.cells #[.int .i64 0] 3)).alloc (.cells #[.bool false] 4)), ((b4.alloc (.cells #[.int .i64 0] 3)).alloc (.cells #[.bool false] 4)), b5.alloc (.cells #[.bool false] 4), b6⟩,
    (((((Chg.alloc (fun _ => False) w (.cells #[(.pointer (some ⟨b, 0, none⟩))] 56)).trans (Chg.alloc _ _ (.cells #[.string key] 9))).trans (Chg.alloc _ _ (.cells #[.int .i64 0] 3))).trans (Chg.alloc _ _ (.cells #[.int .i64 0] 3))).trans (Chg.alloc _ _ (.cells #[.bool false] 4))),
    by unfold W5; simp only [World.size_alloc]⟩
theorem B5.chg {w w' : World} {g g3 g4 g5 g6 b : Nat} {key : ByteArray} (h : B5 w g g3 g4 g5 g6 b key) (hc : Chg (fun _ => False) w w') : B5 w' g g3 g4 g5 g6 b key :=
  ⟨hc.keep h.b2 id, hc.keep h.b3 id, hc.keep h.b4 id, hc.keep h.b5 id, hc.keep h.b6 id⟩
theorem B5.from {W W' : World} {row : Option Nat} {B0 g g3 g4 g5 g6 b : Nat} {key : ByteArray} (h : B5 W g g3 g4 g5 g6 b key) (hg : W.grownBy W' row) (hB : g < B0 ∧ g3 < B0 ∧ g4 < B0 ∧ g5 < B0 ∧ g6 < B0)
    (hr : ∀ r, row = some r → B0 ≤ r ∧ ∃ o : Obj, W.heap[r]? = some o ∧ o.isCells = false) : B5 W' g g3 g4 g5 g6 b key :=
  ⟨box_from h.b2 hg hB.1 hr, box_from h.b3 hg hB.2.1 hr, box_from h.b4 hg hB.2.2.1 hr, box_from h.b5 hg hB.2.2.2.1 hr, box_from h.b6 hg hB.2.2.2.2 hr⟩
def fndV (o : Option (Nat × Int)) : Value := match o with
  | none => .tuple #[.int .i64 0, .int .i64 0, .bool false]
  | some (k, p) => .tuple #[.int .i64 (64 * (k : Int)), .int .i64 p, .bool true]
def KEnd2 (w : World) (q : ByteArray) (e : Ending) (w' : World) : Prop := e = .returned (.tuple #[.string q, .int .i64 0]) ∧ Chg (fun _ => False) w w'
set_option maxHeartbeats 2000000 in
theorem find_calls (k : TL w a t s nx n H L) (key : ByteArray) (hk : key.size ≤ 9223372036854775807) :
    Calls Try.prog 75 #[(.pointer (some ⟨t.b, 0, none⟩)), .string key] w fun e w' => e = .returned (fndV (fnd key (-1) (L (hbS n key)))) ∧ Chg (fun _ => False) w w' := by
  have hb := hbS_lt k.ti.pow key
  have hw := k.ti.pow
  have BK := Lib.hid (fun W (q : TL W a t s nx n H L) => tbucket_calls q.tm hw key hk)
  have KH := Lib.hid k
  generalize hbS n key = b at hb BK ⊢
  clear k hw
  refine (callsIn_wide (n := 3)).1 ?_
  refine callsIn_of_wp_marks Try.func75 rfl trivial ?_ rfl
  simp only [Try.ntmps75, List.size_toArray, List.length_cons, List.length_nil, Nat.reduceAdd, Nat.reduceSub, Array.replicate_succ, Array.replicate_zero, List.push_toArray, List.append_toArray, List.nil_append, List.cons_append]
  refine wpIn_wide.2 ?_
  go_wp2_with fail
  change Code.wp _ _ _ _ (W5 w t.b key)
  obtain ⟨F5, C5, Z5⟩ := w5_all w t.b key
  generalize W5 w t.b key = w5 at F5 C5 Z5 ⊢
  have K5 := Lib.hid (KH.out.fresh C5)
  obtain ⟨g, hgs⟩ : ∃ g, w.heap.size = g := ⟨_, rfl⟩
  rw [hgs] at F5 Z5 ⊢
  obtain ⟨g6, h6⟩ : ∃ g6, g + 1 + 1 + 1 + 1 = g6 := ⟨_, rfl⟩
  rw [h6] at F5 Z5 ⊢
  obtain ⟨g5, h5⟩ : ∃ g5, g + 1 + 1 + 1 = g5 := ⟨_, rfl⟩
  rw [h5] at F5 ⊢
  obtain ⟨g4, h4⟩ : ∃ g4, g + 1 + 1 = g4 := ⟨_, rfl⟩
  rw [h4] at F5 ⊢
  obtain ⟨g3, h3⟩ : ∃ g3, g + 1 = g3 := ⟨_, rfl⟩
  rw [h3] at F5 ⊢
  have GG : Hid (g < g6 + 1 ∧ g3 < g6 + 1 ∧ g4 < g6 + 1 ∧ g5 < g6 + 1 ∧ g6 < g6 + 1) := by show _ ∧ _; omega
  have GD : Hid (g4 ≠ g5 ∧ g4 ≠ g6 ∧ g5 ≠ g6 ∧ g ≤ g4 ∧ g ≤ g5 ∧ g ≤ g6) := by show _ ∧ _; omega
  have e2 := F5.b2.cell
  have e3 := F5.b3.cell
  replace hgs := Lib.hid hgs
  replace Z5 := Lib.hid Z5
  replace C5 := Lib.hid C5
  replace F5 := Lib.hid F5
  clear h6 h5 h4 h3
  have K5d := Lib.hid (K5.out.fresh (Chg.drew _ w5))
  have CC := Lib.hid (fun (W : World) => chain_calls t.b b W)
  have e2d : (World.drew w5).cell? ⟨g, 0, none⟩ = some (.pointer (some ⟨t.b, 0, none⟩)) := e2
  have e3d : (World.drew w5).cell? ⟨g3, 0, none⟩ = some (.string key) := e3
  go_region_held3 (fun w' => w'.cell? ⟨g, 0, none⟩ = some (.pointer (some ⟨t.b, 0, none⟩)) ∧ w'.cell? ⟨g3, 0, none⟩ = some (.string key)) (go_keep)
    (first
      | (go_at_call 76; refine (BK.out _ K5d.out).mono ?_; rintro e w6 ⟨rfl, hd⟩; have C6 := Lib.hid ((C5.out.trans (Chg.drew _ w5)).trans (hd.chg _)); have Z6 := Lib.hid (show w6.heap.size = g6 + 1 from (by obtain ⟨q, rfl⟩ := hd; exact Z5.out)); have F6 := Lib.hid ((F5.out.chg (Chg.drew _ w5)).chg (hd.chg _)); have m2 := (hd.chg (fun _ => False)).cell e2d id; have m3 := (hd.chg (fun _ => False)).cell e3d id; clear hd; skip)
      | (go_at_call 78; refine (CC.out _).mono ?_; rintro e w7 ⟨rfl, rfl⟩; skip))
  rw [Z6.out]
  have F7 : Hid (B5 ((w6.alloc (.cells #[(.pointer (some ⟨t.b, 0, none⟩))] 56)).alloc (.cells #[(.int .i64 b)] 3)) g g3 g4 g5 g6 t.b key) := (F6.out.chg (Chg.alloc _ _ _)).chg (Chg.alloc _ _ _)
  have C7 : Hid (Chg (fun _ => False) w ((w6.alloc (.cells #[(.pointer (some ⟨t.b, 0, none⟩))] 56)).alloc (.cells #[(.int .i64 b)] 3))) := (C6.out.trans (Chg.alloc _ _ _)).trans (Chg.alloc _ _ _)
  have X1 := ((Boxed.new w6 56 (.pointer (some ⟨t.b, 0, none⟩))).alloc (.cells #[(.int .i64 b)] 3)).cell
  have X2 := (Boxed.new (w6.alloc (.cells #[(.pointer (some ⟨t.b, 0, none⟩))] 56)) 3 (.int .i64 b)).cell
  have Z7 : Hid (((w6.alloc (.cells #[(.pointer (some ⟨t.b, 0, none⟩))] 56)).alloc (.cells #[(.int .i64 b)] 3)).heap.size = g6 + 1 + 2) := by show _ = _; simp only [World.size_alloc]; rw [Z6.out]
  simp only [World.size_alloc] at X2
  rw [Z6.out] at X1 X2
  clear m2 m3 e2 e3 e2d e3d
  replace X1 := Lib.hid X1
  replace X2 := Lib.hid X2
  generalize (w6.alloc (.cells #[(.pointer (some ⟨t.b, 0, none⟩))] 56)).alloc (.cells #[(.int .i64 b)] 3) = w7 at F7 C7 X1 X2 Z7 ⊢
  go_wp2_with fail
  have h30 : Hid (∀ x ∈ L b, x < 30) := fun x hx => (KH.out.ti.mem b hb x hx).1
  have hst := chain_stops 2 (by decide) b hb (g6 + 1) (g6 + 1 + 1) w.heap.size w7 (fun W x C A hc hx => callsIn_wide.2 (KH.out.gets hb W x C A hc hx)) (Nat.le_refl _) (by rw [Z7.out]; omega) (by rw [Z7.out]; omega) C7.out.size X1.out X2.out KH.out C7.out
  have AK := Lib.hid (fun (W : World) (e : El) (hB : Below w.heap.size w W) => akey_calls (KH.out.fresh (Chg.of_below hB)).lies (64 * (e.1.val : Int)) (by have := e.1.isLt; omega))
  have KK := Lib.hid (fun (e : El) => KH.out.ns.key e.1.isLt)
  have TB := Lib.hid (fun (W : World) (hB : Below w.heap.size w W) => (KH.out.fresh (Chg.of_below hB)).tm.c0)
  refine (wpIn_wide (n := 3)).1 ?_
  refine wpIn_rangeFunc_ownG rfl (by decide) (gf := 105) (lb := #[(.pointer (some ⟨g6 + 1, 0, none⟩)), (.pointer (some ⟨g6 + 1 + 1, 0, none⟩))]) rfl trivial (enters_of Try.func105 (by kernel_rfl) rfl) hst
    (fun h k => h.trans k) (fun W l o o' hl h1 h2 h3 => ⟨belowK_b (w := w7) C7.out.size W l o o' hl h1 h2 h3, World.putObj_heap_other (by rw [Z7.out] at hl; omega), World.putObj_heap_other (by rw [Z7.out] at hl; omega)⟩) (Below.refl _ _) (fun _ => rfl)
    (fun (pre : List El) W => B5 W g g3 g4 g5 g6 t.b key ∧ (Below w.heap.size w W ∧ w7.heap.size ≤ W.heap.size) ∧ ∀ e ∈ pre, keyS e.1.val ≠ key)
    (fun c (pre : List El) W => c = .ret ∧ ∃ (pre' : List El) (e : El), pre = pre' ++ [e] ∧ (∀ x ∈ pre', keyS x.1.val ≠ key) ∧ keyS e.1.val = key ∧ Boxed W g4 3 (.int .i64 (64 * (e.1.val : Int))) ∧ Boxed W g5 3 (.int .i64 e.2) ∧ Boxed W g6 4 (.bool true) ∧ Below w.heap.size w W)
    (fun s A B row hs hg hr => ⟨hs.1.from hg (by rw [Z7.out]; have := GG.out; omega) hr, ⟨ownFrom_below (β := List El) (Nat.le_refl _) C7.out.size s A B row hs.2.1.1 hg hr, Nat.le_trans hs.2.1.2 hg.size⟩, hs.2.2⟩)
    (fun c s A B row hs hg hr => by
      obtain ⟨h1, pre', e, h2, h3, h4, h5, h6, h7, h8⟩ := hs
      have := GG.out
      exact ⟨h1, pre', e, h2, h3, h4, box_from h5 hg (by rw [Z7.out]; omega) hr, box_from h6 hg (by rw [Z7.out]; omega) hr, box_from h7 hg (by rw [Z7.out]; omega) hr, ownFrom_below (β := List El) (Nat.le_refl _) C7.out.size s A B row h8 hg hr⟩)
    ⟨F7.out, ⟨C7.out.below (Nat.le_refl _) fun _ h => h.elim, Nat.le_refl _⟩, fun e he => by simp at he⟩
    (fun (x : El) => { tmps := #[(.pointer (some ⟨t.b, 0, none⟩)), .string key, (.pointer (some ⟨g, 0, none⟩)), (.pointer (some ⟨g3, 0, none⟩)), (.pointer (some ⟨g4, 0, none⟩)), (.pointer (some ⟨g5, 0, none⟩)), (.pointer (some ⟨g6, 0, none⟩)), (.int .i64 (64 * (x.1.val : Int))), (.int .i64 x.2), undef, undef, (.pointer (some ⟨t.b, 0, none⟩)), (.pointer (some ⟨t.b, 0, none⟩)), .string key, (.int .i64 b), .func (.func 105) #[] #[(.pointer (some ⟨g6 + 1, 0, none⟩)), (.pointer (some ⟨g6 + 1 + 1, 0, none⟩))], (.int .i64 (64 * (x.1.val : Int))), (.int .i64 x.2), undef, undef, undef, undef, undef, undef, undef, undef, undef, undef, undef, undef, undef, undef], defers := [] }) ?assign ?body ?done ?stop
  case assign =>
    intro l x W K hK
    unfold ev
    gi_wp2
    exact hK
  case body =>
    rintro l pre x W ⟨hF, ⟨hB, hZ⟩, hN⟩ hlt
    replace hZ := Lib.hid hZ
    have e2 := hF.b2.cell
    have e3 := hF.b3.cell
    have d0 := TB.out W hB
    have A1 := AK.out W x hB
    rw [KK.out x] at A1
    unfold KEnd at A1
    simp only [str_bs] at A1
    have A2 : Hid (CallsIn (Fence.wide.inRound l) 0 Try.prog 42 #[(.pointer (some ⟨a.g, 0, none⟩)), (.int .i64 (64 * (x.1.val : Int)))] W (KEnd2 W (keyS x.1.val))) := ((callsIn_wide (n := 0)).2 A1).inRound l
    have KF := Lib.hid hF
    have KB := Lib.hid hB
    have KN := Lib.hid hN
    clear A1 hF hB hN hst
    gi_wp2_with fail
    refine ⟨trivial, ?_⟩
    refine A2.out.mono ?_
    rintro e w8 ⟨rfl, hc⟩
    have F8 := KF.out.chg hc
    have B8 := Lib.hid (KB.out.trans (hc.below KB.out.size fun _ h => h.elim))
    have KP := Lib.hid (keeps_of_chg w7.heap.size hc)
    have hcH := Lib.hid hc
    have e3 := F8.b3.cell
    have z4 := F8.b4.frozen
    have z5 := F8.b5.frozen
    have z6 := F8.b6.frozen
    have q4 := F8.b4.cell
    have q5 := F8.b5.cell
    have q6 := F8.b6.cell
    replace F8 := Lib.hid F8
    obtain ⟨n1, n2, n3, -⟩ := GD.out
    have n1' := n1.symm
    have n2' := n2.symm
    have n3' := n3.symm
    clear A2 d0 e2 hc
    by_cases hq : keyS x.1.val = key
    · have HQ := Lib.hid hq
      rw [hq]
      have t1 : (key.toList == key.toList) = true := by rw [beq_self_eq_true]
      clear hq
      gi_wp2_with fail
      have G1 := GG.out
      have G2 := GD.out
      have gw := hgs.out
      have zz := Z7.out
      exact ⟨keeps_set (keeps_set (keeps_set KP.out (by omega)) (by omega)) (by omega), rfl, pre, x, rfl, KN.out, HQ.out, ((F8.out.b4.set _).other n1 _).other n2 _, ((F8.out.b5.other n1' _).set _).other n3 _, ((F8.out.b6.other n2' _).other n3' _).set _,
        ((B8.out.setCell (p := ⟨g4, 0, none⟩) (by show w.heap.size ≤ g4; omega) _).setCell (p := ⟨g5, 0, none⟩) (by show w.heap.size ≤ g5; omega) _).setCell (p := ⟨g6, 0, none⟩) (by show w.heap.size ≤ g6; omega) _⟩
    · have HQ := Lib.hid hq
      have t1 : ((keyS x.1.val).toList == key.toList) = false := by
        rw [beq_eq_false_iff_ne]
        intro e
        apply hq
        rw [ByteArray.toList_eq, ByteArray.toList_eq] at e
        exact ByteArray.ext (Array.toList_inj.1 e)
      clear hq
      gi_wp2_with fail
      have G1 := GG.out
      have zz := Z7.out
      have hz := hZ.out
      exact ⟨KP.out, Kp.of_chg hcH.out KB.out.size (by omega) (by omega), F8.out, ⟨B8.out, Nat.le_trans hz hcH.out.size⟩, fun e he => by
        rcases List.mem_append.1 he with he | he
        · exact KN.out e he
        · rw [List.mem_singleton.1 he]; exact HQ.out⟩
  case done =>
    rintro D ys W hD rfl ⟨hF, ⟨hB, -⟩, hN⟩ hK
    have z4 := hF.b4.frozen
    have z5 := hF.b5.frozen
    have z6 := hF.b6.frozen
    have q4 := hF.b4.cell
    have q5 := hF.b5.cell
    have q6 := hF.b6.cell
    have KF := Lib.hid hF
    have KB := Lib.hid hB
    have KN := Lib.hid hN
    have HK := Lib.hid hK
    obtain ⟨n1, n2, n3, -⟩ := GD.out
    have n1' := n1.symm
    have n2' := n2.symm
    have n3' := n3.symm
    clear hF hB hN hK hst
    gi_wp2
    go_wp2_with fail
    have G1 := GG.out
    have G2 := GD.out
    have gw := hgs.out
    have zz := Z7.out
    have b4 := ((KF.out.b4.set (.int .i64 0)).other n1 (.int .i64 0)).other n2 (.bool false)
    have b5 := ((KF.out.b5.other n1' (.int .i64 0)).set (.int .i64 0)).other n3 (.bool false)
    have b6 := ((KF.out.b6.other n2' (.int .i64 0)).other n3' (.int .i64 0)).set (.bool false)
    have BB := ((KB.out.setCell (p := ⟨g4, 0, none⟩) (by show w.heap.size ≤ g4; omega) (.int .i64 0)).setCell (p := ⟨g5, 0, none⟩) (by show w.heap.size ≤ g5; omega) (.int .i64 0)).setCell (p := ⟨g6, 0, none⟩) (by show w.heap.size ≤ g6; omega) (.bool false)
    have HD : (((W.setCell ⟨g4, 0, none⟩ (.int .i64 0)).setCell ⟨g5, 0, none⟩ (.int .i64 0)).setCell ⟨g6, 0, none⟩ (.bool false)).heap[D]? = some (.deferred (some [])) := by
      rw [Below.heap_setCell _ ⟨g6, 0, none⟩ _ D (by show D ≠ g6; omega), Below.heap_setCell _ ⟨g5, 0, none⟩ _ D (by show D ≠ g5; omega), Below.heap_setCell _ ⟨g4, 0, none⟩ _ D (by show D ≠ g4; omega)]
      exact HK.out
    generalize ((W.setCell ⟨g4, 0, none⟩ (.int .i64 0)).setCell ⟨g5, 0, none⟩ (.int .i64 0)).setCell ⟨g6, 0, none⟩ (.bool false) = W9 at b4 b5 b6 BB HD
    refine ⟨by simp, .inl ⟨_, _, rfl, run_takeDeferred HD, ?_⟩⟩
    have c4 : Boxed (W9.putObj D (.deferred none)) g4 _ _ := (World.putObj_heap_other (by omega)).trans b4
    have c5 : Boxed (W9.putObj D (.deferred none)) g5 _ _ := (World.putObj_heap_other (by omega)).trans b5
    have c6 : Boxed (W9.putObj D (.deferred none)) g6 _ _ := (World.putObj_heap_other (by omega)).trans b6
    refine ⟨.tuple #[.int .i64 0, .int .i64 0, .bool false], results_cells3 rfl rfl rfl rfl ?_ ?_ ?_, ?_, Chg.of_below (BB.trans (belowK_b (w := w) (Nat.le_refl _) W9 D _ _ (by omega) HD rfl rfl))⟩
    · have := c4.cell
      simp [loadVar, go_sem, this]
    · have := c5.cell
      simp [loadVar, go_sem, this]
    · have := c6.cell
      simp [loadVar, go_sem, this]
    · rw [fnd_none fun j hj => prs_mem hj h30.out (Q := fun k => keyS k ≠ key) KN.out]
      rfl
  case stop =>
    rintro D c pre W hD hp ⟨rfl, pre', e, h2, h3, h4, b4, b5, b6, BB⟩ HD
    have G1 := GG.out
    have G2 := GD.out
    have gw := hgs.out
    have zz := Z7.out
    obtain ⟨A, C, hAC, hpa⟩ := prs_prefix hp
    rw [h2] at hpa
    rcases List.eq_nil_or_concat A with rfl | ⟨A', x, rfl⟩
    · exact absurd hpa (by simp [prs])
    rw [List.concat_eq_append] at hAC hpa
    rw [prs_append] at hpa
    obtain ⟨hq1, hq2⟩ := List.append_inj' hpa rfl
    have he : e = el x (lastP (-1) A') := by injection hq2
    have hx30 := h30.out x (by rw [hAC]; simp)
    have ev1 : e.1.val = x := by
      have := el_val hx30 (lastP (-1) A')
      rw [he]; omega
    have ev2 : e.2 = lastP (-1) A' := by rw [he]; rfl
    rw [ev1] at h4 b4
    rw [ev2] at b5
    have hfn : fnd key (-1) (L b) = some (x, lastP (-1) A') := by
      rw [hAC, List.append_assoc]
      exact fnd_some (fun j hj => prs_mem hj (fun y hy => h30.out y (by rw [hAC]; simp [hy])) (p := -1) (Q := fun k => keyS k ≠ key) (by rw [← hq1]; exact h3)) h4 _
    replace hfn := Lib.hid hfn
    clear hst
    gi_wp2
    refine ⟨by simp, .inl ⟨_, _, rfl, run_takeDeferred HD, ?_⟩⟩
    have c4 : Boxed (W.putObj D (.deferred none)) g4 _ _ := (World.putObj_heap_other (by omega)).trans b4
    have c5 : Boxed (W.putObj D (.deferred none)) g5 _ _ := (World.putObj_heap_other (by omega)).trans b5
    have c6 : Boxed (W.putObj D (.deferred none)) g6 _ _ := (World.putObj_heap_other (by omega)).trans b6
    refine ⟨.tuple #[.int .i64 (64 * (x : Int)), .int .i64 (lastP (-1) A'), .bool true], results_cells3 rfl rfl rfl rfl ?_ ?_ ?_, by rw [hfn.out]; rfl, Chg.of_below (BB.trans (belowK_b (w := w) (Nat.le_refl _) W D _ _ (by omega) HD rfl rfl))⟩
    · have := c4.cell
      simp [loadVar, go_sem, this]
    · have := c5.cell
      simp [loadVar, go_sem, this]
    · have := c6.cell
      simp [loadVar, go_sem, this]
end Go.Proofs.Ytolpjgpimholcaa.Assoc

/- The walks of chapter 10's table: Find, Insert, Bucket. -/
namespace Go.Proofs.Ytolpjgpimholcaa.Assoc
open Go Go.RowKit Go.Proofs.Ytolpjgpimholcaa.Mem Go.Proofs.Ytolpjgpimholcaa.CodecPure Go.Proofs.Ytolpjgpimholcaa.ArenaPure Go.Proofs.Ytolpjgpimholcaa.Codec Go.Proofs.Ytolpjgpimholcaa.Arena Go.Proofs.Ytolpjgpimholcaa.Item Go.Proofs.Ytolpjgpimholcaa.Fnv
set_option linter.unusedVariables false
set_option maxRecDepth 100000
variable {w w' : World} {a : Ar} {t : Th} {n cnt : Nat} {H : List Int} {s : St} {nx : Nat → Int} {L : Nat → List Nat}
def findV (o : Option (Nat × Int)) : Value := match o with
  | none => .tuple #[.int .i64 0, .bool false]
  | some (k, _) => .tuple #[.int .i64 (64 * (k : Int)), .bool true]
theorem Find_calls (k : TL w a t s nx n H L) (key : ByteArray) (hk : key.size ≤ 9223372036854775807) :
    Calls Try.prog 32 #[(.pointer (some ⟨t.b, 0, none⟩)), .string key] w fun e w' => e = .returned (findV (fnd key (-1) (L (hbS n key)))) ∧ Chg (fun _ => False) w w' := by
  have F := Lib.hid (find_calls k key hk)
  generalize fnd key (-1) (L (hbS n key)) = o at F ⊢
  clear k
  cases o with
  | none =>
    replace F : Hid (Calls Try.prog 75 #[(.pointer (some ⟨t.b, 0, none⟩)), .string key] w fun e w' => e = .returned (.tuple #[.int .i64 0, .int .i64 0, .bool false]) ∧ Chg (fun _ => False) w w') := F
    go_enter Try.func32, Try.ntmps32
    go_wp2_with fail
    refine F.out.mono ?_
    rintro e w1 ⟨rfl, hc⟩
    replace hc := Lib.hid hc
    go_wp2_with fail
    go_ret2
    exact ⟨rfl, hc.out⟩
  | some q =>
    obtain ⟨x, p⟩ := q
    replace F : Hid (Calls Try.prog 75 #[(.pointer (some ⟨t.b, 0, none⟩)), .string key] w fun e w' => e = .returned (.tuple #[.int .i64 (64 * (x : Int)), .int .i64 p, .bool true]) ∧ Chg (fun _ => False) w w') := F
    go_enter Try.func32, Try.ntmps32
    go_wp2_with fail
    refine F.out.mono ?_
    rintro e w1 ⟨rfl, hc⟩
    replace hc := Lib.hid hc
    go_wp2_with fail
    go_ret2
    exact ⟨rfl, hc.out⟩
/-- an address that has no key -/
theorem insert_err (k : TL w a t s nx n H L) (x er : Int) (hx : -9223372036854775808 ≤ x ∧ x ≤ 9223372036854775807) (he : keyP s x = ([], er)) (h0 : er ≠ 0) :
    Calls Try.prog 30 #[(.pointer (some ⟨t.b, 0, none⟩)), (.int .i64 x)] w fun e w' => e = .returned (.int .i64 er) ∧ Chg (fun _ => False) w w' := by
  have c0 := k.tm.c0
  have A := akey_calls k.lies x hx
  rw [he] at A
  replace A := Lib.hid A
  have t1 : (er != 0) = true := by rw [bne_iff_ne]; exact h0
  clear k he h0
  go_enter Try.func30, Try.ntmps30
  go_wp2_with fail
  refine A.out.mono ?_
  rintro e w1 ⟨rfl, hc⟩
  replace hc := Lib.hid hc
  go_wp2_with fail
  go_ret
  exact ⟨rfl, hc.out⟩
theorem fnd_at {l : List Nat} {k : Nat} (hl : ∀ j ∈ l, j < 30) (hk : k < 30) : ∀ p, fnd (keyS k) p l = if k ∈ l then (fnd (keyS k) p l) else none := by
  intro p
  by_cases h : k ∈ l
  · rw [if_pos h]
  · rw [if_neg h]
    exact fnd_none (fun j hj e => h (by rw [← keyS_inj (hl j hj) hk e]; exact hj)) p
theorem fnd_in {l : List Nat} {k : Nat} (hl : ∀ j ∈ l, j < 30) (hk : k < 30) (h : k ∈ l) : ∃ A C, l = A ++ k :: C ∧ k ∉ A ∧ ∀ p, fnd (keyS k) p l = some (k, lastP p A) := by
  obtain ⟨A, C, rfl, hA⟩ := mem_split h
  exact ⟨A, C, rfl, hA, fnd_some (fun j hj e => hA (by rw [← keyS_inj (hl j (by simp [hj])) hk e]; exact hj)) rfl⟩
theorem keyS_size {k : Nat} (hk : k < 30) : (keyS k).size ≤ 9223372036854775807 := by rw [(keyS_bs k hk).2]; decide
theorem TL.key (k : TL w a t s nx n H L) {x : Nat} (hx : x < 30) (W : World) (hc : Chg (fun _ => False) w W) : Calls Try.prog 42 #[(.pointer (some ⟨a.g, 0, none⟩)), (.int .i64 (64 * (x : Int)))] W fun e w' => e = .returned (.tuple #[.string (keyS x), .int .i64 0]) ∧ Chg (fun _ => False) W w' := by
  have A := akey_calls (k.fresh hc).lies (64 * (x : Int)) (by omega)
  rw [k.ns.key hx] at A
  unfold KEnd at A
  simp only [str_bs] at A
  exact A
/-- an item that is in -/
theorem insert_twice (k : TL w a t s nx n H L) {x : Nat} (hx : x < 30) (hm : x ∈ L (hb n x)) :
    Calls Try.prog 30 #[(.pointer (some ⟨t.b, 0, none⟩)), (.int .i64 (64 * (x : Int)))] w fun e w' => e = .returned (.int .i64 4) ∧ Chg (fun _ => False) w w' := by
  have c0 := k.tm.c0
  have A := Lib.hid (k.key hx w (Chg.refl _ _))
  have F := Lib.hid (fun W (q : TL W a t s nx n H L) => Find_calls q (keyS x) (keyS_size hx))
  obtain ⟨A1, C1, -, -, hf⟩ := fnd_in (fun j hj => (k.ti.mem _ (hb_lt k.ti.pow x) j hj).1) hx hm
  have hf := hf (-1)
  replace F : Hid (∀ W, TL W a t s nx n H L → Calls Try.prog 32 #[(.pointer (some ⟨t.b, 0, none⟩)), .string (keyS x)] W fun e w' => e = .returned (.tuple #[.int .i64 (64 * (x : Int)), .bool true]) ∧ Chg (fun _ => False) W w') := fun W q => by
    have := F.out W q
    rw [show hbS n (keyS x) = hb n x from rfl, hf] at this
    exact this
  have k := Lib.hid k
  generalize keyS x = key at A F
  clear hf
  go_enter Try.func30, Try.ntmps30
  go_wp2_with fail
  refine A.out.mono ?_
  rintro e w1 ⟨rfl, hc⟩
  have k1 := Lib.hid (k.out.fresh hc)
  replace hc := Lib.hid hc
  clear c0 A
  go_wp2_with fail
  refine (F.out w1 k1.out).mono ?_
  rintro e w2 ⟨rfl, hc2⟩
  have C2 := Lib.hid (hc.out.trans hc2)
  clear hc hc2
  go_wp2_with fail
  go_ret
  exact ⟨rfl, C2.out⟩
/-- where a bucket's first item stands -/
theorem heads_ix (h b n : Nat) (hb : b < n) (W : World) : (Instr.indexAt 27 (.slice (some ⟨h, 0, none⟩) n n) (.int .i64 (b : Int))).run Try.prog W = .ok (.pointer (some ⟨h, b, none⟩)) W := by
  rw [run_indexAt_slice W _ _ _ _ _ _ Try.underlying27, if_pos ⟨by omega, by omega⟩, elem_int]
  show Result.ok (Value.pointer (some ((⟨h, 0, none⟩ : Addr).add (((b : Int)).toNat * 1)))) W = _
  rw [add_plain, show ((b : Int)).toNat = b by omega, Nat.mul_one, Nat.zero_add]
/-- what an act answers, and how it leaves the table -/
def TNow (w : World) (a : Ar) (t : Th) (s : St) (nx : Nat → Int) (n : Nat) (H : List Int) (L : Nat → List Nat) (v : Value) (e : Ending) (w' : World) : Prop :=
  e = .returned v ∧ TL w' a t s nx n H L ∧ Chg (T2 a t) w w'
theorem total_cons {L : Nat → List Nat} {b n : Nat} (hb : b < n) (k : Nat) : total (updL L b (k :: L b)) n = total L n + 1 := by
  have := total_upd L b (k :: L b) n
  rw [if_pos hb, if_pos hb, List.length_cons] at this
  omega
set_option maxHeartbeats 1000000 in
theorem insert_new (k : TL w a t s nx n H L) {x : Nat} (hx : x < 30) (hm : x ∉ L (hb n x)) :
    Calls Try.prog 30 #[(.pointer (some ⟨t.b, 0, none⟩)), (.int .i64 (64 * (x : Int)))] w (TNow w a t (itemSet s (64 * (x : Int)) 0 (H.getD (hb n x) 0)).1 (upd nx x (H.getD (hb n x) 0)) n (H.set (hb n x) (64 * (x : Int))) (updL L (hb n x) (x :: L (hb n x))) (.int .i64 0)) := by
  have c0 := k.tm.c0
  have hbn := hb_lt k.ti.pow x
  have A := Lib.hid (k.key hx w (Chg.refl _ _))
  have hf : fnd (keyS x) (-1) (L (hb n x)) = none := by
    rw [fnd_at (fun j hj => (k.ti.mem _ hbn j hj).1) hx, if_neg hm]
  have F : Hid (∀ W, TL W a t s nx n H L → Calls Try.prog 32 #[(.pointer (some ⟨t.b, 0, none⟩)), .string (keyS x)] W fun e w' => e = .returned (.tuple #[.int .i64 0, .bool false]) ∧ Chg (fun _ => False) W w') := fun W q => by
    have := Find_calls q (keyS x) (keyS_size hx)
    rw [show hbS n (keyS x) = hb n x from rfl, hf] at this
    exact this
  have BK : Hid (∀ W, TL W a t s nx n H L → Calls Try.prog 76 #[(.pointer (some ⟨t.b, 0, none⟩)), .string (keyS x)] W fun e w' => e = .returned (.int .i64 (hb n x)) ∧ Dr W w') := fun W q => tbucket_calls q.tm q.ti.pow (keyS x) (keyS_size hx)
  have TI' := k.ti.insert hx hm
  have pl : Pl (H.getD (hb n x) 0) := by
    rw [k.ti.heads _ hbn]
    exact headI_pl fun j hj => (k.ti.mem _ hbn j hj).1
  obtain ⟨e2, NS'⟩ := k.ns.set hx pl
  have TT := total_cons (L := L) hbn x
  have T30 : total L n < 100000 := by
    have key : ∀ m, m ≤ n → total L m ≤ 30 * m := by
      intro m
      induction m with
      | zero => intro _; exact Nat.le_refl _
      | succ m ih =>
        intro h
        have := nodup_len 30 (L m) (k.ti.nodup m (by omega)) fun j hj => (k.ti.mem m (by omega) j hj).1
        have := ih (by omega)
        show total L m + (L m).length ≤ _
        omega
    have := key n (Nat.le_refl _)
    have := k.tm.most
    omega
  have SC := Lib.hid (fun W (q : TL W a t s nx n H L) => set_calls q.lies (64 * (x : Int)) 0 (H.getD (hb n x) 0) (by omega) (by have := pl.1; have := pl.2; omega))
  rw [e2] at SC
  generalize (itemSet s (64 * (x : Int)) 0 (H.getD (hb n x) 0)).1 = s' at NS' SC ⊢
  have k := Lib.hid k
  have hbs : t.b ∉ a.pb ∧ t.h ∉ a.pb := ⟨k.out.tm.off.2.2.1, k.out.tm.off.2.2.2.2.2⟩
  replace hbs := Lib.hid hbs
  generalize hhd : H.getD (hb n x) 0 = hd at NS' SC TI' ⊢
  generalize hbe : hb n x = b at BK TI' TT hbn hhd ⊢
  replace hhd := Lib.hid hhd
  generalize keyS x = key at A F BK
  replace TI' := Lib.hid TI'
  replace NS' := Lib.hid NS'
  replace TT := Lib.hid TT
  clear hf e2 hm hbe pl
  go_enter Try.func30, Try.ntmps30
  go_wp2_with fail
  refine A.out.mono ?_
  rintro e w1 ⟨rfl, hc⟩
  have k1 := Lib.hid (k.out.fresh hc)
  replace hc := Lib.hid hc
  clear c0 A
  go_wp2_with fail
  refine (F.out w1 k1.out).mono ?_
  rintro e w2 ⟨rfl, hc2⟩
  have k2 := Lib.hid (k1.out.fresh hc2)
  have C2 := Lib.hid (hc.out.trans hc2)
  clear hc hc2 k1 F
  go_wp2_with fail
  refine (BK.out w2 k2.out).mono ?_
  rintro e w3 ⟨rfl, hd3⟩
  have k3 := k2.out.fresh (hd3.chg _)
  have C3 := Lib.hid (C2.out.trans (hd3.chg _))
  have c0 := k3.tm.c0
  have c1 := k3.tm.c1
  have ch := k3.tm.h hbn
  rw [hhd.out] at ch
  have k3d := Lib.hid (k3.fresh (Chg.drew _ w3))
  clear hd3 k2 C2 BK k3
  go_wp2_with fail
  have IX := fun W => heads_ix t.h b n hbn W
  replace hbn := Lib.hid hbn
  have c0d : (World.drew w3).cell? ⟨t.b, 0, none⟩ = some (.pointer (some ⟨a.g, 0, none⟩)) := c0
  have c1d : (World.drew w3).cell? ⟨t.b, 1, none⟩ = some (.slice (some ⟨t.h, 0, none⟩) n n) := c1
  have chd : (World.drew w3).cell? ⟨t.h, b, none⟩ = some (.int .i64 hd) := ch
  have C4 := Lib.hid (C3.out.trans (Chg.drew _ w3))
  go_region_held3 (fun w' => w'.cell? ⟨t.b, 0, none⟩ = some (.pointer (some ⟨a.g, 0, none⟩)) ∧ w'.cell? ⟨t.b, 1, none⟩ = some (.slice (some ⟨t.h, 0, none⟩) n n) ∧ w'.cell? ⟨t.h, b, none⟩ = some (.int .i64 hd)) (go_keep)
    (first
      | (go_at_call 24; refine (SC.out _ k3d.out).mono ?_; rintro e w5 ⟨rfl, l5, c5⟩; have m0 := c5.cell c0d hbs.out.1; have m1 := c5.cell c1d hbs.out.1; have mh := c5.cell chd hbs.out.2; skip))
  clear c0 c1 ch c0d c1d chd C3 m0 m1 mh
  have tm5 := k3d.out.tm.arena c5
  have d1 := tm5.c1
  have dh := tm5.h hbn.out
  have zh := blk_frozen tm5.row b
  have tm6 := tm5.setH hbn.out (64 * (x : Int))
  have e2 := tm6.c2
  have z2 := blk_frozen tm6.head 2
  have tm7 := Lib.hid (tm6.setN (total L n + 1))
  replace tm6 := Lib.hid tm6
  have L5 := Lib.hid l5
  have C5 : Hid (Chg (T2 a t) w w5) := (C4.out.mono fun _ _ h => h.elim).trans (c5.mono fun _ _ h => .inl h)
  have ws : IntKind.i64.wrap (((total L n : Nat) : Int) + 1) = ((total L n + 1 : Nat) : Int) := by rw [IntWalk.i64_in _ (by omega)]; omega
  clear l5 c5 tm5 k3d C4 SC
  go_wp2_with fail
  go_ret
  have LL : Lies ((w5.setCell ⟨t.h, b, none⟩ (.int .i64 (64 * (x : Int)))).setCell ⟨t.b, 2, none⟩ (.int .i64 ((total L n : Int) + 1))) a s' := by
    have cc := (Chg.setCell (S := fun y => y = t.h ∨ y = t.b) w5 ⟨t.h, b, none⟩ (.int .i64 (64 * (x : Int))) (.inl rfl)).trans (Chg.setCell _ ⟨t.b, 2, none⟩ (.int .i64 ((total L n : Int) + 1)) (.inr rfl))
    obtain ⟨o1, o2, o3, o4, o5, o6⟩ := k.out.tm.off
    exact L5.out.chg cc (fun q => q.elim (fun q => o4 q.symm) fun q => o1 q.symm) (fun q => q.elim (fun q => o5 q.symm) fun q => o2 q.symm) fun y hy q => q.elim (fun q => o6 (q ▸ hy)) fun q => o3 (q ▸ hy)
  refine ⟨rfl, ⟨LL, NS'.out, ?_, TI'.out⟩, (C5.out.trans (Chg.setCell _ _ _ (.inr (.inr rfl)))).trans (Chg.setCell _ _ _ (.inr (.inl rfl)))⟩
  rw [TT.out]
  exact tm7.out
end Go.Proofs.Ytolpjgpimholcaa.Assoc

/- The walks of chapter 10's table: Delete. -/
namespace Go.Proofs.Ytolpjgpimholcaa.Assoc
open Go Go.RowKit Go.Proofs.Ytolpjgpimholcaa.Mem Go.Proofs.Ytolpjgpimholcaa.CodecPure Go.Proofs.Ytolpjgpimholcaa.ArenaPure Go.Proofs.Ytolpjgpimholcaa.Codec Go.Proofs.Ytolpjgpimholcaa.Arena Go.Proofs.Ytolpjgpimholcaa.Item Go.Proofs.Ytolpjgpimholcaa.Fnv
set_option linter.unusedVariables false
set_option maxRecDepth 100000
variable {w w' : World} {a : Ar} {t : Th} {n cnt : Nat} {H : List Int} {s : St} {nx : Nat → Int} {L : Nat → List Nat}
theorem delete_none (k : TL w a t s nx n H L) (key : ByteArray) (hk : key.size ≤ 9223372036854775807) (hf : fnd key (-1) (L (hbS n key)) = none) :
    Calls Try.prog 29 #[(.pointer (some ⟨t.b, 0, none⟩)), .string key] w fun e w' => e = .returned (.tuple #[.int .i64 0, .int .i64 3]) ∧ Chg (fun _ => False) w w' := by
  have F := find_calls k key hk
  rw [hf] at F
  replace F : Hid (Calls Try.prog 75 #[(.pointer (some ⟨t.b, 0, none⟩)), .string key] w fun e w' => e = .returned (.tuple #[.int .i64 0, .int .i64 0, .bool false]) ∧ Chg (fun _ => False) w w') := F
  clear k hf
  go_enter Try.func29, Try.ntmps29
  go_wp2_with fail
  refine F.out.mono ?_
  rintro e w1 ⟨rfl, hc⟩
  replace hc := Lib.hid hc
  go_wp2_with fail
  go_ret2
  exact ⟨rfl, hc.out⟩
theorem total_del {L : Nat → List Nat} {b n k : Nat} {A C : List Nat} (hb : b < n) (e : L b = A ++ k :: C) : total (updL L b (A ++ C)) n + 1 = total L n := by
  have := total_upd L b (A ++ C) n
  rw [if_pos hb, if_pos hb, e, List.length_append, List.length_append, List.length_cons] at this
  omega
theorem TL.total30 (k : TL w a t s nx n H L) : total L n < 100000 := by
  have key : ∀ m, m ≤ n → total L m ≤ 30 * m := by
    intro m
    induction m with
    | zero => intro _; exact Nat.le_refl _
    | succ m ih =>
      intro h
      have := nodup_len 30 (L m) (k.ti.nodup m (by omega)) fun j hj => (k.ti.mem m (by omega) j hj).1
      have := ih (by omega)
      show total L m + (L m).length ≤ _
      omega
  have := key n (Nat.le_refl _)
  have := k.tm.most
  omega
theorem Lies.heads {W : World} {s' : St} (h : Lies W a s') (o : t.b ≠ a.g ∧ t.b ≠ a.ps ∧ t.b ∉ a.pb ∧ t.h ≠ a.g ∧ t.h ≠ a.ps ∧ t.h ∉ a.pb) (i : Nat) (v : Value) : Lies (W.setCell ⟨t.h, i, none⟩ v) a s' :=
  h.chg (Chg.setCell (S := fun y => y = t.h) W ⟨t.h, i, none⟩ v rfl) (fun q => o.2.2.2.1 q.symm) (fun q => o.2.2.2.2.1 q.symm) fun y hy q => o.2.2.2.2.2 (q ▸ hy)
theorem Lies.items {W : World} {s' : St} (h : Lies W a s') (o : t.b ≠ a.g ∧ t.b ≠ a.ps ∧ t.b ∉ a.pb ∧ t.h ≠ a.g ∧ t.h ≠ a.ps ∧ t.h ∉ a.pb) (i : Nat) (v : Value) : Lies (W.setCell ⟨t.b, i, none⟩ v) a s' :=
  h.chg (Chg.setCell (S := fun y => y = t.b) W ⟨t.b, i, none⟩ v rfl) (fun q => o.1 q.symm) (fun q => o.2.1 q.symm) fun y hy q => o.2.2.1 (q ▸ hy)
set_option maxHeartbeats 1000000 in
/-- its bucket's first item -/
theorem delete_first (k : TL w a t s nx n H L) {x : Nat} (hx : x < 30) {C : List Nat} (hL : L (hb n x) = x :: C) :
    Calls Try.prog 29 #[(.pointer (some ⟨t.b, 0, none⟩)), .string (keyS x)] w (TNow w a t (itemSet s (64 * (x : Int)) 0 (-1)).1 (upd nx x (-1)) n (H.set (hb n x) (headI C)) (updL L (hb n x) C) (.tuple #[.int .i64 (64 * (x : Int)), .int .i64 0])) := by
  have hbn := hb_lt k.ti.pow x
  have hm := k.ti.mem _ hbn
  have hf : fnd (keyS x) (-1) (L (hb n x)) = some (x, -1) := by rw [hL]; exact fnd_some (A := []) (fun j hj => by simp at hj) rfl _
  have F := find_calls k (keyS x) (keyS_size hx)
  rw [show hbS n (keyS x) = hb n x from rfl, hf] at F
  replace F : Hid (Calls Try.prog 75 #[(.pointer (some ⟨t.b, 0, none⟩)), .string (keyS x)] w fun e w' => e = .returned (.tuple #[.int .i64 (64 * (x : Int)), .int .i64 (-1), .bool true]) ∧ Chg (fun _ => False) w w') := F
  have G : Hid (∀ W, Chg (fun _ => False) w W → Calls Try.prog 23 #[(.pointer (some ⟨a.g, 0, none⟩)), (.int .i64 (64 * (x : Int))), (.int .i64 0)] W (Ans2 W (headI C) 0)) := fun W hc => k.gets hbn W x C [] hc hL
  have BK : Hid (∀ W, TL W a t s nx n H L → Calls Try.prog 76 #[(.pointer (some ⟨t.b, 0, none⟩)), .string (keyS x)] W fun e w' => e = .returned (.int .i64 (hb n x)) ∧ Dr W w') := fun W q => tbucket_calls q.tm q.ti.pow (keyS x) (keyS_size hx)
  have TI' := k.ti.delete (A := []) hbn hL
  have e1 : delH H (hb n x) [] C = H.set (hb n x) (headI C) := if_pos rfl
  have e2 : delN nx [] C x = upd nx x (-1) := rfl
  rw [e1, e2] at TI'
  replace TI' : Hid (TI (upd nx x (-1)) n (H.set (hb n x) (headI C)) (updL L (hb n x) C)) := TI'
  obtain ⟨e3, NS'⟩ := k.ns.set hx (show Pl (-1) from ⟨by decide, by decide⟩)
  have TT := total_del (A := []) hbn hL
  have T30 := k.total30
  have SC := Lib.hid (fun W (q : Lies W a s) => set_calls q (64 * (x : Int)) 0 (-1) (by omega) (by decide))
  rw [e3] at SC
  generalize (itemSet s (64 * (x : Int)) 0 (-1)).1 = s' at NS' SC ⊢
  have O := Lib.hid k.tm.off
  have k := Lib.hid k
  generalize headI C = nxt at G TI' ⊢
  generalize hbe : hb n x = b at BK TI' TT hbn hL ⊢
  generalize keyS x = key at F BK ⊢
  obtain ⟨m, hmm⟩ : ∃ m, total (updL L b C) n = m := ⟨_, rfl⟩
  replace TT : total (updL L b C) n + 1 = total L n := TT
  rw [hmm] at TT
  have IX := fun W => heads_ix t.h b n hbn W
  replace hbn := Lib.hid hbn
  replace hmm := Lib.hid hmm
  replace NS' := Lib.hid NS'
  have ws : IntKind.i64.wrap (((total L n : Nat) : Int) - 1) = (m : Int) := by rw [IntWalk.i64_in _ (by omega)]; omega
  replace TT := Lib.hid TT
  clear hf e1 e2 e3 hbe hL hm hx
  go_enter Try.func29, Try.ntmps29
  go_wp2_with fail
  refine F.out.mono ?_
  rintro e w1 ⟨rfl, hc⟩
  have k1 := k.out.fresh hc
  have c0 := k1.tm.c0
  have C1 := Lib.hid hc
  clear hc F k1
  go_wp2_with fail
  refine (G.out w1 C1.out).mono ?_
  rintro e w2 ⟨rfl, hc⟩
  have C2 := Lib.hid (C1.out.trans hc)
  have k2 := k.out.fresh C2.out
  have c1 := k2.tm.c1
  have k2d := Lib.hid (k2.fresh (Chg.drew _ w2))
  have c1d : (World.drew w2).cell? ⟨t.b, 1, none⟩ = some (.slice (some ⟨t.h, 0, none⟩) n n) := c1
  have sp1 := k2.tm.sep
  have sp2 := sp1.symm
  clear hc C1 G c0 k2
  go_wp2_with fail
  go_region_held3 (fun w' => w'.cell? ⟨t.b, 1, none⟩ = some (.slice (some ⟨t.h, 0, none⟩) n n)) (go_keep)
    (first
      | (go_at_call 76; refine (BK.out _ k2d.out).mono ?_; rintro e w3 ⟨rfl, hd⟩; have C3 := Lib.hid ((C2.out.trans (Chg.drew _ w2)).trans (hd.chg _)); have k3 := k2d.out.fresh (hd.chg _); have m1 := (hd.chg (fun _ => False)).cell c1d id; have dh := k3.tm.h hbn.out; have zh := blk_frozen k3.tm.row b; replace k3 := Lib.hid k3; clear hd; skip))
  have tm4 := k3.out.tm.setH hbn.out nxt
  have L4 := Lib.hid (Lies.heads k3.out.lies O.out b (.int .i64 nxt))
  have C4 : Hid (Chg (T2 a t) w (w3.setCell ⟨t.h, b, none⟩ (.int .i64 nxt))) := (C3.out.mono fun _ _ h => h.elim).trans (Chg.setCell _ _ _ (.inr (.inr rfl)))
  have c0 := tm4.c0
  replace tm4 := Lib.hid tm4
  clear m1 dh zh c1 c1d k2d BK C2 IX C3 k3 sp1 sp2
  generalize w3.setCell ⟨t.h, b, none⟩ (.int .i64 nxt) = w4 at tm4 L4 C4 c0 ⊢
  go_wp2_with fail
  refine (SC.out w4 L4.out).mono ?_
  rintro e w5 ⟨rfl, l5, c5⟩
  have tm5 := tm4.out.arena c5
  have d2 := tm5.c2
  have z2 := blk_frozen tm5.head 2
  have tm6 := Lib.hid (tm5.setN m)
  have L6 := Lib.hid (Lies.items l5 O.out 2 (.int .i64 (m : Int)))
  have C6 : Hid (Chg (T2 a t) w (w5.setCell ⟨t.b, 2, none⟩ (.int .i64 (m : Int)))) := (C4.out.trans (c5.mono fun _ _ h => .inl h)).trans (Chg.setCell _ _ _ (.inr (.inl rfl)))
  clear l5 c5 tm5 tm4 SC L4 C4 c0
  go_wp2_with fail
  go_ret2
  exact ⟨rfl, ⟨L6.out, NS'.out, by rw [hmm.out]; exact tm6.out, TI'.out⟩, C6.out⟩
set_option maxHeartbeats 1000000 in
/-- one that stands behind another -/
theorem delete_mid (k : TL w a t s nx n H L) {j x : Nat} (hj : j < 30) (hx : x < 30) {A C : List Nat} (hL : L (hb n x) = A ++ j :: x :: C) :
    Calls Try.prog 29 #[(.pointer (some ⟨t.b, 0, none⟩)), .string (keyS x)] w (TNow w a t (itemSet (itemSet s (64 * (j : Int)) 0 (headI C)).1 (64 * (x : Int)) 0 (-1)).1 (upd (upd nx j (headI C)) x (-1)) n H (updL L (hb n x) (A ++ j :: C)) (.tuple #[.int .i64 (64 * (x : Int)), .int .i64 0])) := by
  have hbn := hb_lt k.ti.pow x
  have hm := k.ti.mem _ hbn
  have hL2 : L (hb n x) = (A ++ [j]) ++ x :: C := by rw [hL]; simp
  have hnd := k.ti.nodup _ hbn
  rw [hL2] at hnd hm
  have hf : fnd (keyS x) (-1) (L (hb n x)) = some (x, 64 * (j : Int)) := by
    rw [hL2, fnd_some (fun i hi e => by
      have := keyS_inj (hm i (by simp at hi ⊢; rcases hi with hi | hi; exact .inl hi; exact .inr (.inl hi))).1 hx e
      subst this
      exact (List.nodup_append.1 hnd).2.2 i hi i (by simp) rfl) rfl, lastP_snoc]
  have F := find_calls k (keyS x) (keyS_size hx)
  rw [show hbS n (keyS x) = hb n x from rfl, hf] at F
  replace F : Hid (Calls Try.prog 75 #[(.pointer (some ⟨t.b, 0, none⟩)), .string (keyS x)] w fun e w' => e = .returned (.tuple #[.int .i64 (64 * (x : Int)), .int .i64 (64 * (j : Int)), .bool true]) ∧ Chg (fun _ => False) w w') := F
  have G : Hid (∀ W, Chg (fun _ => False) w W → Calls Try.prog 23 #[(.pointer (some ⟨a.g, 0, none⟩)), (.int .i64 (64 * (x : Int))), (.int .i64 0)] W (Ans2 W (headI C) 0)) := fun W hc => k.gets hbn W x C (A ++ [j]) hc hL2
  have TI' := k.ti.delete (A := A ++ [j]) hbn hL2
  have e1 : delH H (hb n x) (A ++ [j]) C = H := if_neg (by simp)
  have e2 : delN nx (A ++ [j]) C x = upd (upd nx j (headI C)) x (-1) := by unfold delN; rw [show (A ++ [j]).getLast? = some j by simp]
  rw [e1, e2, show A ++ [j] ++ C = A ++ j :: C by simp] at TI'
  replace TI' := Lib.hid TI'
  have pl : Pl (headI C) := headI_pl fun i hi => (hm i (by simp [hi])).1
  obtain ⟨e3, NS1⟩ := k.ns.set hj pl
  have SC1 := Lib.hid (fun W (q : Lies W a s) => set_calls q (64 * (j : Int)) 0 (headI C) (by omega) (by have := pl.1; have := pl.2; omega))
  rw [e3] at SC1
  generalize (itemSet s (64 * (j : Int)) 0 (headI C)).1 = s1 at NS1 SC1 ⊢
  obtain ⟨e4, NS'⟩ := NS1.set hx (show Pl (-1) from ⟨by decide, by decide⟩)
  have TT := total_del (A := A ++ [j]) hbn hL2
  rw [show A ++ [j] ++ C = A ++ j :: C by simp] at TT
  have T30 := k.total30
  have SC := Lib.hid (fun W (q : Lies W a s1) => set_calls q (64 * (x : Int)) 0 (-1) (by omega) (by decide))
  rw [e4] at SC
  generalize (itemSet s1 (64 * (x : Int)) 0 (-1)).1 = s' at NS' SC ⊢
  have O := Lib.hid k.tm.off
  have k := Lib.hid k
  generalize headI C = nxt at G TI' SC1 NS' ⊢
  generalize hbe : hb n x = b at TI' TT hbn hL ⊢
  generalize keyS x = key at F ⊢
  obtain ⟨m, hmm⟩ : ∃ m, total (updL L b (A ++ j :: C)) n = m := ⟨_, rfl⟩
  rw [hmm] at TT
  replace hmm := Lib.hid hmm
  replace NS' := Lib.hid NS'
  have ws : IntKind.i64.wrap (((total L n : Nat) : Int) - 1) = (m : Int) := by rw [IntWalk.i64_in _ (by omega)]; omega
  have tj : (64 * (j : Int) == -1) = false := by rw [beq_eq_false_iff_ne]; omega
  replace TT := Lib.hid TT
  clear hf e1 e2 e3 e4 hbe hL hm hx hj hL2 hnd NS1 pl
  go_enter Try.func29, Try.ntmps29
  go_wp2_with fail
  refine F.out.mono ?_
  rintro e w1 ⟨rfl, hc⟩
  have k1 := k.out.fresh hc
  have c0 := k1.tm.c0
  have C1 := Lib.hid hc
  clear hc F k1
  go_wp2_with fail
  refine (G.out w1 C1.out).mono ?_
  rintro e w2 ⟨rfl, hc⟩
  have C2 := Lib.hid (C1.out.trans hc)
  have k2 := k.out.fresh C2.out
  have c0 := k2.tm.c0
  replace k2 := Lib.hid k2
  clear hc C1 G
  go_wp2_with fail
  refine (SC1.out w2 k2.out.lies).mono ?_
  rintro e w4 ⟨rfl, l4, c4⟩
  have tm4 := k2.out.tm.arena c4
  have L4 := Lib.hid l4
  have C4 : Hid (Chg (T2 a t) w w4) := (C2.out.mono fun _ _ h => h.elim).trans (c4.mono fun _ _ h => .inl h)
  have c0 := tm4.c0
  replace tm4 := Lib.hid tm4
  clear l4 c4 k2 C2 SC1
  go_wp2_with fail
  refine (SC.out w4 L4.out).mono ?_
  rintro e w5 ⟨rfl, l5, c5⟩
  have tm5 := tm4.out.arena c5
  have d2 := tm5.c2
  have z2 := blk_frozen tm5.head 2
  have tm6 := Lib.hid (tm5.setN m)
  have L6 := Lib.hid (Lies.items l5 O.out 2 (.int .i64 (m : Int)))
  have C6 : Hid (Chg (T2 a t) w (w5.setCell ⟨t.b, 2, none⟩ (.int .i64 (m : Int)))) := (C4.out.trans (c5.mono fun _ _ h => .inl h)).trans (Chg.setCell _ _ _ (.inr (.inl rfl)))
  clear l5 c5 tm5 tm4 SC L4 C4 c0
  go_wp2_with fail
  go_ret2
  exact ⟨rfl, ⟨L6.out, NS'.out, by rw [hmm.out]; exact tm6.out, TI'.out⟩, C6.out⟩
end Go.Proofs.Ytolpjgpimholcaa.Assoc

/- The walks of chapter 10's table: New, and the library's Repeat. -/
namespace Go.Proofs.Ytolpjgpimholcaa.Assoc
open Go Go.RowKit Go.Proofs.Ytolpjgpimholcaa.Mem Go.Proofs.Ytolpjgpimholcaa.CodecPure Go.Proofs.Ytolpjgpimholcaa.ArenaPure Go.Proofs.Ytolpjgpimholcaa.Codec Go.Proofs.Ytolpjgpimholcaa.Arena Go.Proofs.Ytolpjgpimholcaa.Item Go.Proofs.Ytolpjgpimholcaa.Fnv Go.Proofs.Ytolpjgpimholcaa.Inv
set_option linter.unusedVariables false
set_option maxRecDepth 100000
variable {w w' : World} {a : Ar} {t : Th} {n cnt : Nat} {H : List Int} {s : St} {nx : Nat → Int} {L : Nat → List Nat}
theorem mul64_calls (n : Nat) (h0 : 1 ≤ n) (h1 : n ≤ 64) (w : World) : Calls Try.prog 119 #[.int .u64 1, .int .u64 n] w fun e w' => e = .returned (.tuple #[.int .u64 0, .int .u64 n]) ∧ w' = w := by
  have b1 : Go.bits .and .u64 1 4294967295 = 1 := by decide +kernel
  have b0 : Go.bits .and .u64 0 4294967295 = 0 := by decide +kernel
  have bn : Go.bits .and .u64 (n : Int) 4294967295 = n := by
    have key : ∀ m : Fin 65, Go.bits .and .u64 (m.val : Int) 4294967295 = (m.val : Int) := by decide +kernel
    exact key ⟨n, by omega⟩
  have q : (n : Int) / 4294967296 = 0 := by omega
  go_enter Try.func119, Try.ntmps119
  go_wp2_with fail
  go_ret2
  exact ⟨rfl, rfl⟩
theorem mul_calls (n : Nat) (h0 : 1 ≤ n) (h1 : n ≤ 64) (w : World) : Calls Try.prog 103 #[.int .u64 1, .int .u64 n] w fun e w' => e = .returned (.tuple #[.int .u64 0, .int .u64 n]) ∧ w' = w := by
  have M := Lib.hid (mul64_calls n h0 h1 w)
  go_enter Try.func103, Try.ntmps103
  go_wp2_with fail
  refine M.out.mono ?_
  rintro e w1 ⟨rfl, rfl⟩
  go_wp2_with fail
  go_ret2
  exact ⟨rfl, rfl⟩
/-- the first m cells of a row are none -/
def Nones (w : World) (h n m : Nat) : Prop := ∃ R : List Int, w.heap[h]? = some (.cells (nums .i64 R).toArray 3 (0, 0)) ∧ R.length = n ∧ m ≤ n ∧ ∀ i, i < m → R.getD i 0 = -1
theorem nones_all {w : World} {h n : Nat} (k : Nones w h n n) : w.heap[h]? = some (.cells (nums .i64 (List.replicate n (-1))).toArray 3 (0, 0)) := by
  obtain ⟨R, h1, h2, -, h4⟩ := k
  have : R = List.replicate n (-1) := by
    refine List.eq_replicate_iff.2 ⟨h2, fun x hx => ?_⟩
    obtain ⟨i, hi, rfl⟩ := List.getElem_of_mem hx
    have := h4 i (by omega)
    rw [List.getD_eq_getElem?_getD, List.getElem?_eq_getElem hi] at this
    exact this
  rw [← this]; exact h1
theorem splice_nums (k : IntKind) (R l : List Int) (o : Nat) : splice (nums k R) o (nums k l) = nums k (splice R o l) := by
  unfold splice nums
  simp
theorem nones_more {w : World} {h n m d : Nat} {R : List Int} (h1 : w.heap[h]? = some (.cells (nums .i64 R).toArray 3 (0, 0))) (h2 : R.length = n) (h4 : ∀ i, i < m → R.getD i 0 = -1) (hd : m + d ≤ n) : Nones (w.setRow h (splice (nums .i64 R) m (nums .i64 (List.replicate d (-1)))).toArray) h n (m + d) := by
  rw [splice_nums]
  have lr : (List.replicate d (-1 : Int)).length = d := List.length_replicate
  refine ⟨_, setRow_heap w _ _ _ _ (0, 0) h1, by rw [length_splice _ _ _ (by rw [lr]; omega)]; exact h2, hd, fun i hi => ?_⟩
  rw [List.getD_eq_getElem?_getD, splice_get _ _ _ (by rw [lr]; omega), lr]
  by_cases e : m ≤ i ∧ i < m + d
  · rw [if_pos e, List.getElem?_replicate, if_pos (by omega)]; rfl
  · rw [if_neg e, ← List.getD_eq_getElem?_getD]; exact h4 i (by omega)
theorem slice_from (h n m : Nat) (hm : m < n) (W : World) : (Instr.sliceAt 27 (.slice (some ⟨h, 0, none⟩) n n) (some (.int .i64 (m : Int))) none none).run Try.prog W = .ok (.slice (some ⟨h, m, none⟩) (n - m) (n - m)) W := by
  rw [run_sliceAt_slice W _ _ _ _ _ Try.underlying27, run_slice_l W _ _ n n Try.underlying27 .i64 m (by omega) (by omega), elem_int]
  show Result.ok (sliced (some ⟨h, 0, none⟩) ((m : Int)).toNat n n 1) W = _
  rw [show ((m : Int)).toNat = m by omega]
  unfold sliced
  rw [if_neg (by omega), Nat.mul_one, Option.map_some, add_plain, Nat.zero_add]
theorem slice_to (h n m : Nat) (hm : m ≤ n) (hn : 0 < n) (W : World) : (Instr.sliceAt 27 (.slice (some ⟨h, 0, none⟩) n n) none (some (.int .i64 (m : Int))) none).run Try.prog W = .ok (.slice (some ⟨h, 0, none⟩) m n) W := by
  rw [run_sliceAt_slice W _ _ _ _ _ Try.underlying27, run_slice_h W _ _ n n Try.underlying27 .i64 m (by omega) (by omega), elem_int]
  show Result.ok (sliced (some ⟨h, 0, none⟩) 0 ((m : Int)).toNat n 1) W = _
  rw [show ((m : Int)).toNat = m by omega]
  unfold sliced
  rw [if_neg (by omega)]
  simp [Addr.add]
theorem make_ints (n : Nat) (h : n ≤ 1000000) (W : World) : (Instr.makeSlice 27 (.int .i64 n) (.int .i64 n)).run Try.prog W = .ok (.slice (some ⟨W.heap.size, 0, none⟩) n n) (W.alloc (.cells (nums .i64 (List.replicate n 0)).toArray 3)) := by
  obtain ⟨i0, hi, hz0, hz1, hz2⟩ := info_parts info_int'
  rw [run_make W 27 3 i0 (.int .i64 0) Try.underlying27 hi hz0 .i64 .i64 n n (by omega) (by omega) (by rw [hz2]; omega) (by omega), hz1]
  have e : ((n : Int)).toNat = n := by omega
  have e2 : madeCells (Value.int .i64 0).cells (n * 1) = (nums .i64 (List.replicate n 0)).toArray := by
    apply Array.ext_getElem?
    intro i
    unfold madeCells nums
    rw [Array.getElem?_map, Array.getElem?_range, List.getElem?_toArray, List.getElem?_map, List.getElem?_replicate, Nat.mul_one]
    split
    · show some (#[Value.int .i64 0][i % 1]!) = some (Value.int .i64 0)
      rw [Nat.mod_one]; rfl
    · rfl
  rw [e, e2]
/-- what the operations of a copy's round come to -/
def VF (h n m d : Nat) : Nat → Value
  | 0 => .int .i64 (m : Int)
  | 1 => .slice (some ⟨h, 0, none⟩) n n
  | 2 => .int .i64 (m : Int)
  | 3 => .slice (some ⟨h, m, none⟩) (n - m) (n - m)
  | 4 => .slice (some ⟨h, 0, none⟩) n n
  | 5 => .int .i64 (m : Int)
  | 6 => .slice (some ⟨h, 0, none⟩) m n
  | 7 => .int .i64 (d : Int)
  | _ => .int .i64 ((m + d : Nat) : Int)
structure RI (w1 : World) (h n m d : Nat) (R : List Int) (b : Nat → Bool) (v : Nat → Value) (W : World) : Prop where
  bel : Below h w1 W
  row : b 7 = false → W.heap[h]? = some (.cells (nums .i64 R).toArray 3 (0, 0))
  done : b 7 = true → Nones W h n (m + d)
  fs : ∀ i, b i = true → v i = VF h n m d i
  v9 : b 9 = false → v 9 = .int .i64 (m : Int)
  ord : b 9 = true → ∀ i, i < 9 → b i = true
theorem RI.free {w1 W : World} {h n m d : Nat} {R : List Int} {b : Nat → Bool} {v : Nat → Value} (q : RI w1 h n m d R b v W) {i : Nat} (hi : i < 9) (hb : b i = false) : v 9 = .int .i64 (m : Int) := by
  refine q.v9 ?_
  cases h9 : b 9 with
  | false => rfl
  | true => rw [q.ord h9 i hi] at hb; cases hb
theorem RI.same {w1 W : World} {h n m d : Nat} {R : List Int} {b : Nat → Bool} {v : Nat → Value} (q : RI w1 h n m d R b v W) (i : Nat) (hi : i < 9 ∧ i ≠ 7) : RI w1 h n m d R (up b i true) (up v i (VF h n m d i)) W := by
  refine ⟨q.bel, fun e => q.row (by rwa [up_ne _ _ (Ne.symm hi.2)] at e), fun e => q.done (by rwa [up_ne _ _ (Ne.symm hi.2)] at e), fun j hj => ?_, fun e => ?_, fun e j hj => ?_⟩
  · by_cases e : j = i
    · subst e; rw [up_at]
    · rw [up_ne _ _ e] at hj ⊢; exact q.fs j hj
  · rw [up_ne _ _ (show 9 ≠ i by omega)] at e ⊢; exact q.v9 e
  · rw [up_ne _ _ (show 9 ≠ i by omega)] at e
    by_cases ej : j = i
    · subst ej; rw [up_at]
    · rw [up_ne _ _ ej]; exact q.ord e j hj
theorem RI.last {w1 W : World} {h n m d : Nat} {R : List Int} {b : Nat → Bool} {v : Nat → Value} (q : RI w1 h n m d R b v W) (ha : ∀ i, i < 9 → b i = true) : RI w1 h n m d R (up b 9 true) (up v 9 (VF h n m d 9)) W := by
  refine ⟨q.bel, fun e => q.row (by rwa [up_ne _ _ (by decide)] at e), fun e => q.done (by rwa [up_ne _ _ (by decide)] at e), fun j hj => ?_, (fun e => by rw [up_at] at e; cases e), fun e j hj => by rw [up_ne _ _ (by omega)]; exact ha j hj⟩
  by_cases e : j = 9
  · subst e; rw [up_at]
  · rw [up_ne _ _ e] at hj ⊢; exact q.fs j hj
theorem RI.copied {w1 W : World} {h n m d : Nat} {R : List Int} {b : Nat → Bool} {v : Nat → Value} (q : RI w1 h n m d R b v W) (w5 : World) (hn : Nones w5 h n (m + d)) (hb : Below h w1 w5) : RI w1 h n m d R (up b 7 true) (up v 7 (VF h n m d 7)) w5 := by
  refine ⟨hb, fun e => (by rw [up_at] at e; cases e), fun _ => hn, fun j hj => ?_, fun e => ?_, fun e j hj => ?_⟩
  · by_cases e : j = 7
    · subst e; rw [up_at]
    · rw [up_ne _ _ e] at hj ⊢; exact q.fs j hj
  · rw [up_ne _ _ (by decide)] at e ⊢; exact q.v9 e
  · rw [up_ne _ _ (by decide)] at e
    by_cases ej : j = 7
    · subst ej; rw [up_at]
    · rw [up_ne _ _ ej]; exact q.ord e j hj
set_option maxHeartbeats 1000000 in
theorem repeat_calls (g n : Nat) (h0 : 1 ≤ n) (h1 : n ≤ 64) (w : World) (hc : w.cell? ⟨g, 0, none⟩ = some (.int .i64 (-1))) :
    Calls Try.prog 74 #[.slice (some ⟨g, 0, none⟩) 1 1, (.int .i64 n)] w fun e w' => ∃ h, e = .returned (.slice (some ⟨h, 0, none⟩) n n) ∧ w'.heap[h]? = some (.cells (nums .i64 (List.replicate n (-1))).toArray 3 (0, 0)) ∧ w.heap.size ≤ h ∧ Chg (fun _ => False) w w' := by
  have M := Lib.hid (mul_calls n h0 h1 w)
  have MK := fun W => make_ints n (by omega) W
  have n0 : ¬ (n : Int) < 0 := by omega
  obtain ⟨h, hh⟩ : ∃ h, w.heap.size = h := ⟨_, rfl⟩
  have gl := World.block_lt_of_cell? w _ hc
  have hcA := (World.cell?_alloc_lt w (.cells (nums .i64 (List.replicate n 0)).toArray 3) _ gl).trans hc
  have hr := heap_alloc_at w (.cells (nums .i64 (List.replicate n 0)).toArray 3)
  have CA := Chg.alloc (fun _ => False) w (.cells (nums .i64 (List.replicate n 0)).toArray 3)
  have F0 := nones_more (m := 0) (d := 1) hr List.length_replicate (fun i hi => by omega) (by omega)
  have S1 : Sl (w.alloc (.cells (nums .i64 (List.replicate n 0)).toArray 3)) .i64 (some ⟨g, 0, none⟩) [-1] := fun i hi => by
    have : i = 0 := by simpa using hi
    subst this
    exact ⟨_, rfl, hcA⟩
  have mn : Hid ((1 : Nat) = Nat.min 1 n) := (Nat.min_eq_left h0).symm
  rw [hh] at hr F0
  replace hr := Lib.hid hr
  replace S1 := Lib.hid S1
  have fit1 : 0 + [(-1 : Int)].length ≤ (nums .i64 (List.replicate n (0 : Int))).length := by rw [nums_length, List.length_replicate]; simp; omega
  have C1 : Hid (Chg (fun x => h ≤ x) w ((w.alloc (.cells (nums .i64 (List.replicate n 0)).toArray 3)).setRow h (splice (nums .i64 (List.replicate n 0)) 0 (nums .i64 (List.replicate 1 (-1)))).toArray)) := (CA.mono fun _ _ h => h.elim).trans (Chg.setRow _ _ _ (Nat.le_refl _))
  replace F0 := Lib.hid F0
  replace hh := Lib.hid hh
  clear hcA CA gl
  go_enter Try.func74, Try.ntmps74
  go_wp2_with fail
  refine M.out.mono ?_
  rintro e w1 ⟨rfl, rfl⟩
  clear M
  go_wp2_with (refine wpList_copy_row rfl _ _ 27 27 rfl 3 Try.underlying27 (by kernel_rfl) h 0 n n _ 1 1 (by rw [← hh.out]; rfl) rfl (nums .i64 (List.replicate n 0)) _ hr.out .i64 [-1] mn.out S1.out fit1 ?_)
  rw [hh.out]
  have e1 : goInt ([(-1 : Int)].length) = .int .i64 ((1 : Nat) : Int) := rfl
  have NN : Hid (Nones ((w1.alloc (.cells (nums .i64 (List.replicate n 0)).toArray 3)).setRow h (splice (nums .i64 (List.replicate n 0)) 0 (nums .i64 [-1])).toArray) h n 1) := F0.out
  have CC : Hid (Chg (fun x => h ≤ x) w1 ((w1.alloc (.cells (nums .i64 (List.replicate n 0)).toArray 3)).setRow h (splice (nums .i64 (List.replicate n 0)) 0 (nums .i64 [-1])).toArray)) := C1.out
  clear F0 C1 S1 hr fit1 mn MK e1
  generalize (w1.alloc (.cells (nums .i64 (List.replicate n 0)).toArray 3)).setRow h (splice (nums .i64 (List.replicate n 0)) 0 (nums .i64 [-1])).toArray = w2 at NN CC ⊢
  go_loopg [8] (n - 1) (fun gg v wr => ∃ m : Nat, v = .int .i64 m ∧ gg = n - m ∧ 1 ≤ m ∧ Hid (Nones wr h n m) ∧ Hid (Below h w1 wr))
  case atStart => exact ⟨1, rfl, rfl, Nat.le_refl _, NN.out, CC.out.below (Nat.le_of_eq hh.out.symm) fun _ h => h⟩
  case round =>
    clear NN CC
    obtain ⟨m, rfl, hg, hm, NN, BB⟩ := hrel
    replace hg := Lib.hid hg
    have mle : m ≤ n := by obtain ⟨R, -, -, h3, -⟩ := NN.out; exact h3
    by_cases hlt : m < n
    · have hlt' : (m : Int) < n := by omega
      have RF := fun W => slice_from h n m hlt W
      have RT := fun W => slice_to h n m mle h0 W
      obtain ⟨R, r1, r2, -, r4⟩ := NN.out
      obtain ⟨d, hd⟩ : ∃ d, Nat.min m (n - m) = d := ⟨_, rfl⟩
      have dle : 1 ≤ d ∧ m + d ≤ n := by
        rw [← hd]
        show 1 ≤ min m (n - m) ∧ m + min m (n - m) ≤ n
        omega
      have hdm : d ≤ m := by rw [← hd]; exact Nat.min_le_left _ _
      have lr : Hid ((List.replicate d (-1 : Int)).length = Nat.min m (n - m)) := by show _ = _; rw [List.length_replicate, hd]
      have r1d : (World.drew wr).heap[h]? = some (.cells (nums .i64 R).toArray 3 (0, 0)) := r1
      have fit : Hid (m + (List.replicate d (-1 : Int)).length ≤ (nums .i64 R).length) := by show _ ≤ _; rw [nums_length, r2, List.length_replicate]; exact dle.2
      have hNM : Hid (∀ w5 : World, w5.heap[h]? = some (.cells (splice (nums .i64 R) m (nums .i64 (List.replicate d (-1)))).toArray 3 (0, 0)) → Nones w5 h n (m + d)) := fun w5 h5 => by
        have lr : (List.replicate d (-1 : Int)).length = d := List.length_replicate
        rw [splice_nums] at h5
        refine ⟨_, h5, by rw [length_splice _ _ _ (by rw [lr]; omega)]; exact r2, dle.2, fun i hi => ?_⟩
        rw [List.getD_eq_getElem?_getD, splice_get _ _ _ (by rw [lr]; omega), lr]
        by_cases e : m ≤ i ∧ i < m + d
        · rw [if_pos e, List.getElem?_replicate, if_pos (by omega)]; rfl
        · rw [if_neg e, ← List.getD_eq_getElem?_getD]; exact r4 i (by omega)
      have lr2 : Hid ((nums .i64 (List.replicate d (-1 : Int))).length = Nat.min m (n - m)) := by show _ = _; rw [nums_length]; exact lr.out
      have SP : Hid (∀ j v, (nums .i64 (List.replicate d (-1 : Int)))[j]? = some v → ∃ z : Unit, (nums .i64 R)[j]? = some v) := fun j v hj => by
        have hj2 : j < d := by
          rcases Nat.lt_or_ge j d with h' | h'
          · exact h'
          · rw [List.getElem?_eq_none (by rw [nums_length, List.length_replicate]; exact h')] at hj; cases hj
        have lr' : (List.replicate d (-1 : Int)).length = d := List.length_replicate
        rw [nums_get .i64 _ j (by rw [lr']; exact hj2)] at hj
        refine ⟨(), ?_⟩
        rw [nums_get .i64 R j (by omega), r4 j (by omega), ← hj, List.getD_eq_getElem?_getD, List.getElem?_replicate, if_pos hj2]
        rfl
      have fit2 : Hid (m + (nums .i64 (List.replicate d (-1 : Int))).length ≤ (nums .i64 R).length) := by show _ ≤ _; rw [nums_length]; exact fit.out
      have one2 : Hid (∀ v ∈ nums .i64 (List.replicate d (-1 : Int)), v.oneCell' = true) := fun v hv => by
        simp only [nums, List.mem_map] at hv
        obtain ⟨y, _, rfl⟩ := hv
        rfl
      have BD : Hid (Below h w1 (World.drew wr)) := BB.out.trans ((Chg.drew (fun _ => False) wr).below (Nat.le_trans (Nat.le_of_eq hh.out.symm) BB.out.size) fun _ h => h.elim)
      replace r1d := Lib.hid r1d
      have dl := Lib.hid dle
      replace hd := Lib.hid hd
      have ws : IntKind.i64.wrap ((m : Int) + (d : Int)) = ((m + d : Nat) : Int) := by rw [IntWalk.i64_in _ (by omega)]; omega
      clear r1 r4 NN dle hdm r2
      go_wp2_with fail
      refine wp_region_inv (by kernel_rfl) (by kernel_rfl) (fun L A W => ∃ (b : Nat → Bool) (v : Nat → Value), L = #[b 0, b 1, b 2, b 3, b 4, b 5, b 6, b 7, b 8, b 9] ∧
        A = ⟨#[.slice (some ⟨g, 0, none⟩) 1 1, (.int .i64 n), undef, undef, .slice none 0 0, (.int .u64 0), (.int .u64 n), (.slice (some ⟨h, 0, none⟩) n n), v 9, (.int .i64 n), .bool false, undef, .tuple #[(.int .u64 0), (.int .u64 n)], .slice (some ⟨g, 0, none⟩) 1 1, (.int .i64 1), (.int .u64 1), (.int .i64 n), (.int .u64 n), .tuple #[(.int .u64 0), (.int .u64 n)], (.int .u64 0), (.int .u64 n), (.int .u64 0), .bool false, .bool false, (.int .u64 n), .bool (decide (9223372036854775807 < (n : Int))), .bool (decide (9223372036854775807 < (n : Int))), undef, (.int .u64 n), (.int .i64 n), (.slice (some ⟨h, 0, none⟩) n n), (.slice (some ⟨h, 0, none⟩) n n), .slice (some ⟨g, 0, none⟩) 1 1, (.int .i64 1), (.int .i64 m), (.slice (some ⟨h, 0, none⟩) n n), (.int .i64 n), .bool true, v 0, v 1, v 2, v 3, v 4, v 5, v 6, v 7, v 8, undef], []⟩ ∧ RI w1 h n m d R b v W) ?_ ?_ ?_
      · exact ⟨fun _ => false, fun i => [u38, u39, u40, u41, u42, u43, u44, u45, u46, (.int .i64 m)].getD i undef, rfl, rfl, ⟨BD.out, fun _ => r1d.out, (fun e => by cases e), (fun i e => by cases e), (fun _ => rfl), fun e => by cases e⟩⟩
      · clear hlt' hlt
        refine Steps.cons (fun L A W hI h1x h2 K hK => ?_) ?_
        · obtain ⟨b, v, rfl, rfl, q⟩ := hI
          have e9 := q.free (i := 0) (by decide) h1x
          replace q := Lib.hid q
          go_simp
          exact hK.out _ _ ⟨up b 0 true, up v 0 (VF h n m d 0), rfl, by simp [up, VF, e9], q.out.same 0 (by decide)⟩
        refine Steps.cons (fun L A W hI h1x h2 K hK => ?_) ?_
        · obtain ⟨b, v, rfl, rfl, q⟩ := hI
          replace q := Lib.hid q
          go_simp
          exact hK.out _ _ ⟨up b 1 true, up v 1 (VF h n m d 1), rfl, by simp [up, VF], q.out.same 1 (by decide)⟩
        refine Steps.cons (fun L A W hI h1x h2 K hK => ?_) ?_
        · obtain ⟨b, v, rfl, rfl, q⟩ := hI
          have e9 := q.free (i := 2) (by decide) h1x
          replace q := Lib.hid q
          go_simp
          exact hK.out _ _ ⟨up b 2 true, up v 2 (VF h n m d 2), rfl, by simp [up, VF, e9], q.out.same 2 (by decide)⟩
        refine Steps.cons (fun L A W hI h1x h2 K hK => ?_) ?_
        · obtain ⟨b, v, rfl, rfl, q⟩ := hI
          have e0 := q.fs 1 (h2 0 _ rfl rfl)
          have e1 := q.fs 2 (h2 1 _ rfl rfl)
          simp only [VF] at e0 e1
          replace q := Lib.hid q
          go_simp
          exact hK.out _ _ ⟨up b 3 true, up v 3 (VF h n m d 3), rfl, by simp [up, VF, e0, e1], q.out.same 3 (by decide)⟩
        refine Steps.cons (fun L A W hI h1x h2 K hK => ?_) ?_
        · obtain ⟨b, v, rfl, rfl, q⟩ := hI
          replace q := Lib.hid q
          go_simp
          exact hK.out _ _ ⟨up b 4 true, up v 4 (VF h n m d 4), rfl, by simp [up, VF], q.out.same 4 (by decide)⟩
        refine Steps.cons (fun L A W hI h1x h2 K hK => ?_) ?_
        · obtain ⟨b, v, rfl, rfl, q⟩ := hI
          have e9 := q.free (i := 5) (by decide) h1x
          replace q := Lib.hid q
          go_simp
          exact hK.out _ _ ⟨up b 5 true, up v 5 (VF h n m d 5), rfl, by simp [up, VF, e9], q.out.same 5 (by decide)⟩
        refine Steps.cons (fun L A W hI h1x h2 K hK => ?_) ?_
        · obtain ⟨b, v, rfl, rfl, q⟩ := hI
          have e0 := q.fs 4 (h2 0 _ rfl rfl)
          have e1 := q.fs 5 (h2 1 _ rfl rfl)
          simp only [VF] at e0 e1
          replace q := Lib.hid q
          go_simp
          exact hK.out _ _ ⟨up b 6 true, up v 6 (VF h n m d 6), rfl, by simp [up, VF, e0, e1], q.out.same 6 (by decide)⟩
        refine Steps.cons (fun L A W hI h1x h2 K hK => ?_) ?_
        · obtain ⟨b, v, rfl, rfl, q⟩ := hI
          have e3 := q.fs 3 (h2 0 _ rfl rfl)
          have e6 := q.fs 6 (h2 1 _ rfl rfl)
          simp only [VF] at e3 e6
          have f7 : b 7 = false := h1x
          have rw7 := q.row f7
          refine step_copy_splice rfl _ _ 27 27 rfl 3 Try.underlying27 (by kernel_rfl) (some ⟨h, m, none⟩) (some ⟨h, 0, none⟩) (n - m) (n - m) m n e3 e6 h m (nums .i64 R) _ rw7 (nums .i64 (List.replicate d (-1))) lr2.out ?_ fit2.out one2.out h w1 q.bel (Nat.le_refl _) ?_
          · intro _
            refine ⟨rfl, _, rfl, fun j u hj => ?_⟩
            obtain ⟨z, hz⟩ := SP.out j u hj
            rw [add_plain, Nat.zero_add, blk_cell rw7, List.getElem?_toArray]
            exact hz
          · intro w5 hk5 hb5
            have lz : (nums .i64 (List.replicate d (-1 : Int))).length = d := by rw [nums_length, List.length_replicate]
            rw [lz]
            exact hK.out _ _ ⟨up b 7 true, up v 7 (VF h n m d 7), rfl, by simp [up, VF, Act.put, goInt], q.copied w5 (hNM.out w5 hk5.out) hb5⟩
        refine Steps.cons (fun L A W hI h1x h2 K hK => ?_) ?_
        · obtain ⟨b, v, rfl, rfl, q⟩ := hI
          have e0 := q.fs 0 (h2 0 _ rfl rfl)
          have e1 := q.fs 7 (h2 1 _ rfl rfl)
          simp only [VF] at e0 e1
          replace q := Lib.hid q
          go_simp
          exact hK.out _ _ ⟨up b 8 true, up v 8 (VF h n m d 8), rfl, by simp [up, VF, e0, e1], q.out.same 8 (by decide)⟩
        refine Steps.cons (fun L A W hI h1x h2 K hK => ?_) ?_
        · obtain ⟨b, v, rfl, rfl, q⟩ := hI
          have e0 := q.fs 8 (h2 0 _ rfl rfl)
          simp only [VF] at e0
          have ha : Hid (∀ i, i < 9 → b i = true) := fun i hi => by
            match i, hi with
            | 0, _ => exact h2 2 _ rfl rfl
            | 1, _ => exact h2 3 _ rfl rfl
            | 2, _ => exact h2 4 _ rfl rfl
            | 3, _ => exact h2 5 _ rfl rfl
            | 4, _ => exact h2 6 _ rfl rfl
            | 5, _ => exact h2 7 _ rfl rfl
            | 6, _ => exact h2 8 _ rfl rfl
            | 7, _ => exact h2 1 _ rfl rfl
            | 8, _ => exact h2 0 _ rfl rfl
          replace q := Lib.hid q
          go_simp
          exact hK.out _ _ ⟨up b 9 true, up v 9 (VF h n m d 9), rfl, by simp [up, VF, e0], q.out.last ha.out⟩
        exact Steps.nil
      · rintro L A W ⟨b, v, rfl, rfl, q⟩ hall
        have b7 : b 7 = true := hall 7 (by decide)
        have e9 := q.fs 9 (hall 9 (by decide))
        simp only [VF] at e9
        have ND := Lib.hid (q.done b7)
        have BE := Lib.hid q.bel
        rw [e9]
        clear q b7 e9 hall RF RT
        go_wp2_with fail
        go_roundg (n - (m + d))
        case measure => have := hg.out; have := dl.out; omega
        case rel => exact ⟨m + d, rfl, rfl, by have := dl.out; omega, ND.out, BE.out⟩
    · have hlt' : ¬ (m : Int) < n := by omega
      obtain rfl : m = n := by omega
      have RR := Lib.hid (nones_all NN.out)
      have CE : Hid (Chg (fun _ => False) w1 wr) := by have := BB.out; rw [← hh.out] at this; exact Chg.of_below this
      clear NN BB
      go_wp2_with fail
      go_ret
      exact ⟨h, rfl, RR.out, by rw [hh.out]; exact Nat.le_refl _, CE.out⟩
end Go.Proofs.Ytolpjgpimholcaa.Assoc

/- The walks of chapter 10's table: New, Bucket, Empty. -/
namespace Go.Proofs.Ytolpjgpimholcaa.Assoc
open Go Go.RowKit Go.Proofs.Ytolpjgpimholcaa.Mem Go.Proofs.Ytolpjgpimholcaa.CodecPure Go.Proofs.Ytolpjgpimholcaa.ArenaPure Go.Proofs.Ytolpjgpimholcaa.Codec Go.Proofs.Ytolpjgpimholcaa.Arena Go.Proofs.Ytolpjgpimholcaa.Item Go.Proofs.Ytolpjgpimholcaa.Fnv
set_option linter.unusedVariables false
set_option maxRecDepth 100000
variable {w w' : World} {a : Ar} {t : Th} {n cnt : Nat} {H : List Int} {s : St} {nx : Nat → Int} {L : Nat → List Nat}
theorem new_bad (g : Nat) (x : Int) (hx : -9223372036854775808 ≤ x ∧ x ≤ 9223372036854775807) (hp : ¬ Pow x) (w : World) : Calls Try.prog 27 #[(.pointer (some ⟨g, 0, none⟩)), (.int .i64 x)] w fun e w' => e = .returned (.tuple #[.pointer none, .int .i64 1]) ∧ w' = w := by
  have B := bucket_calls 0 x w (by decide) (by decide) hx.1 hx.2
  unfold bucketP at B
  rw [if_neg hp] at B
  replace B := Lib.hid B
  clear hp
  go_enter Try.func27, Try.ntmps27
  go_wp2_with fail
  refine B.out.mono ?_
  rintro e w1 ⟨rfl, rfl⟩
  go_wp2_with fail
  go_ret2
  exact ⟨rfl, rfl⟩
theorem total_none : ∀ n, total (fun _ => []) n = 0
  | 0 => rfl
  | n + 1 => by show total _ n + 0 = 0; rw [total_none n]
theorem new_ok (hl : Lies w a s) (hns : NS s nx) (hn : Pow n) : Calls Try.prog 27 #[(.pointer (some ⟨a.g, 0, none⟩)), (.int .i64 n)] w fun e w' => ∃ t : Th, e = .returned (.tuple #[(.pointer (some ⟨t.b, 0, none⟩)), .int .i64 0]) ∧ TL w' a t s nx n (List.replicate n (-1)) (fun _ => []) ∧ Chg (fun _ => False) w w' ∧ w.heap.size ≤ t.b ∧ w.heap.size ≤ t.h := by
  have nr := hn.range
  have B := bucket_calls 0 n w (by decide) (by decide) (by omega) (by omega)
  unfold bucketP at B
  rw [if_pos hn] at B
  replace B := Lib.hid B
  obtain ⟨g, hg⟩ : ∃ g, w.heap.size = g := ⟨_, rfl⟩
  have C1 := Lib.hid (Chg.alloc (fun _ => False) w (.cells #[.int .i64 (-1)] 3))
  have c0 := blk_cell (heap_alloc_at w (.cells #[.int .i64 (-1)] 3)) 0
  have RP := Lib.hid (repeat_calls w.heap.size n (by omega) (by omega) _ c0)
  rw [hg] at RP
  have PB : ∀ y ∈ a.pb, y < g := fun y hy => by
    obtain ⟨i, hi, e⟩ := hl.of_mem hy
    have := blk_lt (hl.page i hi)
    omega
  have lg := blk_lt hl.head
  have lps : a.ps < w.heap.size := World.block_lt_of_cell? w _ (hl.row 0 (by have := hl.ok.low; omega))
  rw [hg] at lg lps
  replace PB := Lib.hid PB
  replace hl := Lib.hid hl
  replace hn := Lib.hid hn
  replace hns := Lib.hid hns
  replace nr := Lib.hid nr
  replace hg := Lib.hid hg
  clear c0
  go_enter Try.func27, Try.ntmps27
  go_wp2_with fail
  refine B.out.mono ?_
  rintro e w1 ⟨rfl, rfl⟩
  clear B
  go_wp2_with fail
  rw [hg.out]
  refine RP.out.mono ?_
  rintro e w2 ⟨h, rfl, hr, hh, hc⟩
  have C2 := Lib.hid (C1.out.trans hc)
  have hgh : Hid (g < h) := by have := hg.out; have e := World.size_alloc w1 (.cells #[.int .i64 (-1)] 3); show g < h; omega
  have R2 := Lib.hid hr
  have hl2 := Lib.hid (blk_lt hr)
  clear hr hh hc RP C1
  go_wp2_with fail
  go_ret2
  have hb := heap_alloc_at w2 (.cells #[(.pointer (some ⟨a.g, 0, none⟩)), .slice (some ⟨h, 0, none⟩) n n, .int .i64 0] 121)
  have CB := Chg.alloc (fun _ => False) w2 (.cells #[(.pointer (some ⟨a.g, 0, none⟩)), .slice (some ⟨h, 0, none⟩) n n, .int .i64 0] 121)
  have C3 := C2.out.trans CB
  have z1 := hl2.out
  have z2 := hgh.out
  have z3 := C2.out.size
  have z4 := hg.out
  have zn := nr.out
  refine ⟨⟨w2.heap.size, h⟩, rfl, ⟨hl.out.chg C3 id id fun _ _ => id, hns.out, ⟨by rw [total_none]; exact hb, CB.keep R2.out id, List.length_replicate, by omega, by show w2.heap.size ≠ h; omega, ?_⟩, TI.new hn.out nx⟩, C3, by show w1.heap.size ≤ w2.heap.size; omega, by show w1.heap.size ≤ h; omega⟩
  exact ⟨by show w2.heap.size ≠ a.g; omega, by show w2.heap.size ≠ a.ps; omega, fun hy => by have := PB.out _ hy; simp only at this; omega, by show h ≠ a.g; omega, by show h ≠ a.ps; omega, fun hy => by have := PB.out _ hy; simp only at this; omega⟩
theorem bucket_out (k : TL w a t s nx n H L) (i : Int) (hi : i < 0 ∨ (n : Int) ≤ i) : Calls Try.prog 33 #[(.pointer (some ⟨t.b, 0, none⟩)), (.int .i64 i)] w fun e w' => e = .returned (.tuple #[.slice none 0 0, .int .i64 1]) ∧ Chg (fun _ => False) w w' := by
  have c1 := k.tm.c1
  have R : Hid (∀ e w', e = Ending.returned (.tuple #[.slice none 0 0, .int .i64 1]) → w' = w → e = .returned (.tuple #[.slice none 0 0, .int .i64 1]) ∧ Chg (fun _ => False) w w') := fun e w' he hw => by subst hw; exact ⟨he, Chg.refl _ _⟩
  have nr := k.tm.most
  clear k
  by_cases h0 : i < 0
  · clear hi
    go_enter Try.func33, Try.ntmps33
    go_wp2_with fail
    go_ret2
    exact R.out _ _ rfl rfl
  · have h1 : (n : Int) ≤ i := by omega
    clear hi
    go_enter Try.func33, Try.ntmps33
    go_wp2_with fail
    go_ret2
    exact R.out _ _ rfl rfl
def BEnd (w : World) (l : List Int) (e : Ending) (w' : World) : Prop := ∃ A c, e = .returned (.tuple #[.slice A l.length c, .int .i64 0]) ∧ Mem.Own w' w.heap.size 3 .i64 (.slice A l.length c) l ∧ Chg (fun _ => False) w w'
theorem bucket_in (k : TL w a t s nx n H L) {b : Nat} (hb : b < n) : Calls Try.prog 33 #[(.pointer (some ⟨t.b, 0, none⟩)), (.int .i64 b)] w (BEnd w (pls (L b))) := by
  have c1 := k.tm.c1
  have CC := Lib.hid (chain_calls t.b b w)
  have C2 : Chg (fun _ => False) w ((w.alloc (.cells #[(.pointer (some ⟨t.b, 0, none⟩))] 56)).alloc (.cells #[(.int .i64 b)] 3)) := (Chg.alloc _ _ _).trans (Chg.alloc _ _ _)
  have X1 := ((Boxed.new w 56 (.pointer (some ⟨t.b, 0, none⟩))).alloc (.cells #[(.int .i64 b)] 3)).cell
  have X2 := (Boxed.new (w.alloc (.cells #[(.pointer (some ⟨t.b, 0, none⟩))] 56)) 3 (.int .i64 b)).cell
  rw [World.size_alloc] at X2
  have F := Lib.hid (firsts_calls (k.fresh C2) hb w.heap.size (w.heap.size + 1) X1 X2)
  have zz : Hid (((w.alloc (.cells #[(.pointer (some ⟨t.b, 0, none⟩))] 56)).alloc (.cells #[(.int .i64 b)] 3)).heap.size = w.heap.size + 2) := by show _ = _; simp only [World.size_alloc]
  have nr := k.tm.most
  have hb' : (b : Int) < (n : Int) := by omega
  have hb2 : ¬ (n : Int) ≤ (b : Int) := by omega
  have hb3 : ¬ n ≤ b := by omega
  have C2 := Lib.hid C2
  obtain ⟨l, hl⟩ : ∃ l, pls (L b) = l := ⟨_, rfl⟩
  rw [hl] at F ⊢
  clear k X1 X2 hl
  go_enter Try.func33, Try.ntmps33
  go_wp2_with fail
  refine CC.out.mono ?_
  rintro e w1 ⟨rfl, rfl⟩
  clear CC
  go_wp2_with fail
  refine F.out.mono ?_
  rintro e w2 ⟨v, rfl, ho, hc⟩
  obtain ⟨A, c, rfl⟩ := ho.form
  have O2 := Lib.hid (Mem.Own.mono ho (show w.heap.size ≤ _ by rw [zz.out]; omega))
  have C3 := Lib.hid (C2.out.trans hc)
  clear ho hc F
  go_wp2_with fail
  go_ret2
  exact ⟨A, c, rfl, O2.out, C3.out⟩
theorem offN_snoc (nx : Nat → Int) (A : List Nat) (k : Nat) : offN nx (A ++ [k]) = upd (offN nx A) k (-1) := by
  funext i
  unfold offN upd
  by_cases h1 : i = k
  · subst h1; simp
  · by_cases h2 : i ∈ A
    · simp [h2, h1]
    · simp [h2, h1]
theorem pls_length (l : List Nat) : (pls l).length = l.length := List.length_map _
theorem pls_getD (l : List Nat) {j : Nat} (hj : j < l.length) : (pls l).getD j 0 = 64 * ((l.getD j 0 : Nat) : Int) := by
  unfold pls
  rw [List.getD_eq_getElem?_getD, List.getElem?_map, List.getD_eq_getElem?_getD, List.getElem?_eq_getElem hj]
  rfl
theorem take_snoc (l : List Nat) {j : Nat} (hj : j < l.length) : l.take (j + 1) = l.take j ++ [l.getD j 0] := by
  rw [List.take_add_one, List.getElem?_eq_getElem hj, List.getD_eq_getElem?_getD, List.getElem?_eq_getElem hj]
  rfl
def EEnd (w : World) (a : Ar) (t : Th) (nx : Nat → Int) (n : Nat) (H : List Int) (L : Nat → List Nat) (b : Nat) (e : Ending) (w' : World) : Prop :=
  ∃ A c s', e = .returned (.tuple #[.slice A (L b).length c, .int .i64 0]) ∧ Mem.Own w' w.heap.size 3 .i64 (.slice A (L b).length c) (pls (L b)) ∧ TL w' a t s' (offN nx (L b)) n (H.set b (-1)) (updL L b []) ∧ Chg (T2 a t) w w'
theorem total_empty {L : Nat → List Nat} {b n : Nat} (hb : b < n) : total (updL L b []) n + (L b).length = total L n := by
  have := total_upd L b [] n
  rw [if_pos hb, if_pos hb, List.length_nil] at this
  omega
set_option maxHeartbeats 1000000 in
theorem empty_in (k : TL w a t s nx n H L) {b : Nat} (hb : b < n) : Calls Try.prog 35 #[(.pointer (some ⟨t.b, 0, none⟩)), (.int .i64 b)] w (EEnd w a t nx n H L b) := by
  have BI := Lib.hid (bucket_in k hb)
  have TI' := Lib.hid (k.ti.empty hb)
  have h30 : Hid (∀ x ∈ L b, x < 30) := fun x hx => (k.ti.mem b hb x hx).1
  have TT := total_empty (L := L) hb
  have T30 := k.total30
  have hlen := nodup_len 30 (L b) (k.ti.nodup b hb) fun x hx => (k.ti.mem b hb x hx).1
  have PA : Hid (∀ y ∈ a.pb, y < w.heap.size) := fun y hy => by
    obtain ⟨i, hi, e⟩ := k.lies.of_mem hy
    have := blk_lt (k.lies.page i hi)
    omega
  have lb := Lib.hid (blk_lt k.tm.head)
  have lh := Lib.hid (blk_lt k.tm.row)
  have O := Lib.hid k.tm.off
  have K := Lib.hid k
  have F : Hid (∀ A c s' e w', e = Ending.returned (.tuple #[.slice A (L b).length c, .int .i64 0]) → Mem.Own w' w.heap.size 3 .i64 (.slice A (L b).length c) (pls (L b)) → TL w' a t s' (offN nx (L b)) n (H.set b (-1)) (updL L b []) → Chg (T2 a t) w w' → EEnd w a t nx n H L b e w') := fun A c s' e w' h1 h2 h3 h4 => ⟨A, c, s', h1, h2, h3, h4⟩
  have PG := Lib.hid (fun j (hj : j < (L b).length) => pls_getD (L b) hj)
  have TS := Lib.hid (fun j (hj : j < (L b).length) => take_snoc (L b) hj)
  have TA : Hid ((L b).take (L b).length = L b) := List.take_length
  have IX := fun W => heads_ix t.h b n hb W
  obtain ⟨q, hq⟩ : ∃ q, total (updL L b []) n = q := ⟨_, rfl⟩
  rw [hq] at TT
  replace hq := Lib.hid hq
  have PL := Lib.hid (pls_length (L b))
  have HM : Hid (∀ j, j < (L b).length → (L b).getD j 0 < 30) := fun j hj => h30.out _ (by rw [List.getD_eq_getElem?_getD, List.getElem?_eq_getElem hj]; exact List.getElem_mem hj)
  generalize hlb : L b = lb' at BI TI' h30 TT hlen F PG TS TA PL HM
  replace hlb := Lib.hid hlb
  obtain ⟨m, hm⟩ : ∃ m, lb'.length = m := ⟨_, rfl⟩
  have ws : IntKind.i64.wrap (((total L n : Nat) : Int) - (m : Int)) = (q : Int) := by rw [IntWalk.i64_in _ (by omega)]; omega
  rw [hm] at hlen F PL
  replace hm := Lib.hid hm
  replace TT := Lib.hid TT
  have HB := Lib.hid hb
  clear k T30 hb h30
  go_enter Try.func35, Try.ntmps35
  go_wp2_with fail
  refine BI.out.mono ?_
  rintro e w1 ⟨A, c, rfl, ho, hc⟩
  rw [PL.out] at ho ⊢
  have O1 := Lib.hid ho
  have C1 := Lib.hid hc
  clear ho hc BI
  go_wp2_with fail
  go_loopg [21] m (fun g i wr => ∃ (j : Nat) (s' : St), i = .int .i64 j ∧ g = m - j ∧ j ≤ m ∧ Hid (NS s' (offN nx (lb'.take j))) ∧ Hid (Lies wr a s') ∧ Hid (Chg (· ∈ a.pb) w1 wr))
  case atStart => exact ⟨0, s, rfl, by omega, by omega, (by show NS s (offN nx []); exact K.out.ns), (K.out.fresh C1.out).lies, Chg.refl _ _⟩
  case round =>
    obtain ⟨j, s', rfl, hg, hj, hns, hl, hch⟩ := hrel
    replace hg := Lib.hid hg
    have tmr := (K.out.fresh C1.out).tm.arena hch.out
    have c0 := tmr.c0
    by_cases h1 : j < m
    · have h1' : (j : Int) < m := by omega
      have hjl : j < lb'.length := by rw [hm.out]; exact h1
      have Or := Lib.hid (Mem.Own.chg O1.out hch.out fun gg e hgg => by have := (World.ownsRow.lt O1.out gg e).1; have := PA.out gg hgg; omega)
      obtain ⟨ad, rfl, cj⟩ := Or.out.sl j (by rw [pls_length]; exact hjl)
      rw [PG.out j hjl] at cj
      have hx := HM.out j hjl
      have TS1 := Lib.hid (TS.out j hjl)
      generalize lb'.getD j 0 = x at cj hx TS1
      obtain ⟨e2, hns2⟩ := hns.out.set hx (show Pl (-1) from ⟨by decide, by decide⟩)
      have SC := set_calls hl.out (64 * (x : Int)) 0 (-1) (by omega) (by decide)
      rw [e2] at SC
      replace SC := Lib.hid SC
      generalize (itemSet s' (64 * (x : Int)) 0 (-1)).1 = s2 at SC hns2
      have NS2 : Hid (NS s2 (offN nx (lb'.take (j + 1)))) := by rw [TS1.out, offN_snoc]; exact hns2
      clear e2 hns2 hns hl tmr IX
      go_wp2_with fail
      refine SC.out.mono ?_
      rintro e w3 ⟨rfl, l3, c3⟩
      have L3 := Lib.hid l3
      have C3 := Lib.hid (hch.out.trans c3)
      clear l3 c3 SC cj c0
      go_wp2_with fail
      go_roundg (m - (j + 1))
      case measure => have := hg.out; omega
      case rel => exact ⟨j + 1, s2, rfl, rfl, by omega, NS2.out, L3.out, C3.out⟩
    · have h1' : ¬ (j : Int) < m := by omega
      obtain rfl : j = m := by omega
      have Or := Lib.hid (Mem.Own.chg O1.out hch.out fun gg e hgg => by have := (World.ownsRow.lt O1.out gg e).1; have := PA.out gg hgg; omega)
      have hns2 := hns.out
      rw [show lb'.take j = lb' from by rw [← hm.out]; exact TA.out] at hns2
      have NS2 := Lib.hid hns2
      have d1 := tmr.c1
      have dh := tmr.h HB.out
      have zh := blk_frozen tmr.row b
      have tm2 := tmr.setH HB.out (-1)
      have d2 := tm2.c2
      have z2 := blk_frozen tm2.head 2
      have tm3 := Lib.hid (tm2.setN q)
      have L2 := Lies.heads hl.out O.out b (.int .i64 (-1))
      have L3 := Lib.hid (Lies.items L2 O.out 2 (.int .i64 (q : Int)))
      have CC : Hid (Chg (fun x => x = t.h ∨ x = t.b) wr ((wr.setCell ⟨t.h, b, none⟩ (.int .i64 (-1))).setCell ⟨t.b, 2, none⟩ (.int .i64 (q : Int)))) := (Chg.setCell _ _ _ (.inl rfl)).trans (Chg.setCell _ _ _ (.inr rfl))
      have CF : Hid (Chg (T2 a t) w ((wr.setCell ⟨t.h, b, none⟩ (.int .i64 (-1))).setCell ⟨t.b, 2, none⟩ (.int .i64 (q : Int)))) := ((C1.out.mono fun _ _ h => h.elim).trans (hch.out.mono fun _ _ h => .inl h)).trans (CC.out.mono fun _ _ h => h.elim (fun h => .inr (.inr h)) fun h => .inr (.inl h))
      clear hns hns2 hl tmr tm2 L2 c0
      go_wp2_with fail
      go_ret2
      refine F.out A c s' _ _ rfl ?_ ⟨L3.out, NS2.out, by rw [hq.out]; exact tm3.out, TI'.out⟩ CF.out
      exact Mem.Own.chg Or.out CC.out fun gg e hgg => by
        have := (World.ownsRow.lt O1.out gg e).1
        have l1 := lb.out
        have l2 := lh.out
        omega
end Go.Proofs.Ytolpjgpimholcaa.Assoc

