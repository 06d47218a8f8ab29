import Derived.Test.YtolpjgpimholcaaGk
/- Two tables of one arena: what the one's acts leave of the other. -/
namespace Go.Proofs.Ytolpjgpimholcaa.Grow
open Go Go.RowKit Go.Proofs.Ytolpjgpimholcaa.Mem Go.Proofs.Ytolpjgpimholcaa.CodecPure Go.Proofs.Ytolpjgpimholcaa.ArenaPure Go.Proofs.Ytolpjgpimholcaa.Codec Go.Proofs.Ytolpjgpimholcaa.Arena Go.Proofs.Ytolpjgpimholcaa.Item Go.Proofs.Ytolpjgpimholcaa.Fnv Go.Proofs.Ytolpjgpimholcaa.Assoc
set_option linter.unusedVariables false
set_option maxRecDepth 100000
variable {w w' : World} {a : Ar} {t u : Th} {s s' : St} {nx nx' : Nat → Int} {n k : Nat} {H I H' : List Int} {L M L' : Nat → List Nat}
theorem chain_congr {nx ny : Nat → Int} : ∀ {l : List Nat}, (∀ x ∈ l, ny x = nx x) → Chain nx l → Chain ny l
  | [], _, _ => trivial
  | x :: l, h, c => ⟨(h x (by simp)).trans c.1, chain_congr (fun y hy => h y (by simp [hy])) c.2⟩
theorem TI.congr (k : TI nx n H L) (h : ∀ b, b < n → ∀ x ∈ L b, nx' x = nx x) : TI nx' n H L := ⟨k.pow, k.len, k.heads, fun b hb => chain_congr (h b hb) (k.chain b hb), k.nodup, k.mem⟩
/-- blocks of two tables apart -/
def Apart (t u : Th) : Prop := t.b ≠ u.b ∧ t.b ≠ u.h ∧ t.h ≠ u.b ∧ t.h ≠ u.h
theorem Apart.symm (h : Apart t u) : Apart u t := ⟨h.1.symm, h.2.2.1.symm, h.2.1.symm, h.2.2.2.symm⟩
/-- the other table behind an act of this one -/
theorem _root_.Go.Proofs.Ytolpjgpimholcaa.Assoc.TL.other (ku : TL w a u s nx k I M) (h : TL w' a t s' nx' n H L) (hc : Chg (T2 a t) w w') (ap : Apart t u) (hnx : ∀ b, b < k → ∀ x ∈ M b, nx' x = nx x) : TL w' a u s' nx' k I M :=
  ⟨h.lies, h.ns, ku.tm.chg hc (fun q => by
    rcases q with q | q | q
    · exact ku.tm.off.2.2.1 q
    · exact ap.1 q.symm
    · exact ap.2.2.1 q.symm) (fun q => by
    rcases q with q | q | q
    · exact ku.tm.off.2.2.2.2.2 q
    · exact ap.2.1 q.symm
    · exact ap.2.2.2 q.symm), TI.congr ku.ti hnx⟩
/-- an act's answer, the table behind it, and which items' fields turned -/
def LEnd (w : World) (a : Ar) (t : Th) (nx : Nat → Int) (n : Nat) (L : Nat → List Nat) (D : Nat → Prop) (v : Value) (e : Ending) (w' : World) : Prop :=
  e = .returned v ∧ ∃ s' nx' H', TL w' a t s' nx' n H' L ∧ (∀ y, ¬ D y → nx' y = nx y) ∧ Chg (T2 a t) w w'
theorem LEnd.of_fresh (k : TL w a t s nx n H L) {D : Nat → Prop} {v : Value} {e : Ending} (he : e = .returned v) (hc : Chg (fun _ => False) w w') : LEnd w a t nx n L D v e w' := ⟨he, s, nx, H, k.fresh hc, fun _ _ => rfl, hc.mono fun _ _ h => h.elim⟩
theorem _root_.Go.Proofs.Ytolpjgpimholcaa.Assoc.TL.insert (k : TL w a t s nx n H L) {x : Nat} (hx : x < 30) : Calls Try.prog 30 #[(.pointer (some ⟨t.b, 0, none⟩)), (.int .i64 (64 * (x : Int)))] w (LEnd w a t nx n (insB L n x) (fun y => y = x) (.int .i64 (insA L n x))) := by
  unfold insB insA
  by_cases hm : x ∈ L (hb n x)
  · rw [if_pos hm, if_pos hm]
    exact (insert_twice k hx hm).mono fun e w' ⟨he, hc⟩ => .of_fresh k he hc
  · rw [if_neg hm, if_neg hm]
    exact (insert_new k hx hm).mono fun e w' ⟨he, h3, hc⟩ => ⟨he, _, _, _, h3, fun y hy => upd_ne _ _ hy, hc⟩
theorem _root_.Go.Proofs.Ytolpjgpimholcaa.Assoc.TL.delete (k : TL w a t s nx n H L) {x : Nat} (hx : x < 30) : Calls Try.prog 29 #[(.pointer (some ⟨t.b, 0, none⟩)), .string (keyS x)] w (LEnd w a t nx n (delB L n x) (fun y => hb n y = hb n x) (delV L n x)) := by
  have hbn := hb_lt k.ti.pow x
  have hmem := k.ti.mem
  unfold delB delV
  by_cases hm : x ∈ L (hb n x)
  · rw [if_pos hm, if_pos hm]
    obtain ⟨A, C, hL, hA⟩ := mem_split hm
    have he : (L (hb n x)).erase x = A ++ C := by rw [hL]; exact erase_at hA
    rw [he]
    rcases List.eq_nil_or_concat A with rfl | ⟨A', j, rfl⟩
    · exact (delete_first k hx hL).mono fun e w' ⟨he, h3, hc⟩ => ⟨he, _, _, _, h3, fun y hy => upd_ne _ _ fun q => hy (by rw [q]), hc⟩
    · rw [List.concat_eq_append] at *
      have hL2 : L (hb n x) = A' ++ j :: x :: C := by rw [hL]; simp
      have hj := hmem _ hbn j (by rw [hL2]; simp)
      rw [show A' ++ [j] ++ C = A' ++ j :: C by simp]
      exact (delete_mid k hj.1 hx hL2).mono fun e w' ⟨he, h3, hc⟩ => ⟨he, _, _, _, h3, fun y hy => by rw [upd_ne _ _ fun q => hy (by rw [q]), upd_ne _ _ fun q => hy (by rw [q]; exact hj.2)], hc⟩
  · rw [if_neg hm, if_neg hm]
    refine (delete_none k (keyS x) (keyS_size hx) ?_).mono fun e w' ⟨he, hc⟩ => .of_fresh k he hc
    rw [show hbS n (keyS x) = hb n x from rfl, fnd_at (fun j hj => (hmem _ hbn j hj).1) hx, if_neg hm]
theorem _root_.Go.Proofs.Ytolpjgpimholcaa.Assoc.TL.find (k : TL w a t s nx n H L) {x : Nat} (hx : x < 30) : Calls Try.prog 32 #[(.pointer (some ⟨t.b, 0, none⟩)), .string (keyS x)] w fun e w' => e = .returned (finV L n x) ∧ Chg (fun _ => False) w w' := by
  have hbn := hb_lt k.ti.pow x
  have F := Find_calls k (keyS x) (keyS_size hx)
  rw [show hbS n (keyS x) = hb n x from rfl] at F
  unfold finV
  by_cases hm : x ∈ L (hb n x)
  · rw [if_pos hm]
    obtain ⟨A, C, -, -, hf⟩ := fnd_in (fun j hj => (k.ti.mem _ hbn j hj).1) hx hm
    rw [hf] at F
    exact F
  · rw [if_neg hm]
    rw [fnd_at (fun j hj => (k.ti.mem _ hbn j hj).1) hx, if_neg hm] at F
    exact F
/-! ### buckets of twice as many -/
theorem hb_twice {n : Nat} (hn : Fnv.Pow n) (x : Nat) : hb (2 * n) x % n = hb n x := by
  have r := hn.range
  unfold hb
  have e : ((2 * n : Nat) : Int) = 2 * (n : Int) := by omega
  rw [e]
  have h3 : num (keyS x) % (2 * (n : Int)) % (n : Int) = num (keyS x) % (n : Int) := Int.emod_emod_of_dvd _ ⟨2, by omega⟩
  have h1 := Int.emod_nonneg (num (keyS x)) (show (2 * (n : Int)) ≠ 0 by omega)
  generalize num (keyS x) % (2 * (n : Int)) = q at h1 h3
  obtain ⟨p, rfl⟩ : ∃ p : Nat, q = p := ⟨q.toNat, by omega⟩
  rw [← h3]
  rw [show ((p : Int) % (n : Int)) = ((p % n : Nat) : Int) from (Int.natCast_emod p n).symm]
  rfl
end Go.Proofs.Ytolpjgpimholcaa.Grow

/- The walks of chapter 11's table that grows: which table a key has; Find, Delete, Insert, State, New. -/
namespace Go.Proofs.Ytolpjgpimholcaa.Grow
open Go Go.RowKit Go.Proofs.Ytolpjgpimholcaa.Mem Go.Proofs.Ytolpjgpimholcaa.CodecPure Go.Proofs.Ytolpjgpimholcaa.ArenaPure Go.Proofs.Ytolpjgpimholcaa.Codec Go.Proofs.Ytolpjgpimholcaa.Arena Go.Proofs.Ytolpjgpimholcaa.Item Go.Proofs.Ytolpjgpimholcaa.Fnv Go.Proofs.Ytolpjgpimholcaa.Assoc
set_option linter.unusedVariables false
set_option maxRecDepth 100000
variable {w w' : World} {a : Ar} {t u : Th} {g : Nat} {s s' : St} {nx nx' : Nat → Int} {n m cnt : Nat} {H I H' : List Int} {L M L' : Nat → List Nat}
/-- a table that does not grow, and its block -/
structure G1 (w : World) (a : Ar) (g : Nat) (t : Th) (s : St) (nx : Nat → Int) (n : Nat) (H : List Int) (L : Nat → List Nat) : Prop where
  tl : TL w a t s nx n H L
  blk : w.heap[g]? = some (.cells #[(.pointer (some ⟨a.g, 0, none⟩)), (.pointer (some ⟨t.b, 0, none⟩)), .pointer none, .int .i64 0] 141 (0, 0))
  off : ¬ T3 a t g
/-- a table that grows: m buckets have been moved -/
structure G2 (w : World) (a : Ar) (g : Nat) (t u : Th) (s : St) (nx : Nat → Int) (n m : Nat) (H : List Int) (L : Nat → List Nat) (I : List Int) (M : Nat → List Nat) : Prop where
  tl : TL w a t s nx n H L
  ul : TL w a u s nx (2 * n) I M
  ap : Apart t u
  blk : w.heap[g]? = some (.cells #[(.pointer (some ⟨a.g, 0, none⟩)), (.pointer (some ⟨t.b, 0, none⟩)), (.pointer (some ⟨u.b, 0, none⟩)), .int .i64 m] 141 (0, 0))
  off : ¬ T3 a t g
  ofu : ¬ T3 a u g
  lt : m < n
  gone : ∀ b, b < m → L b = []
  moved : ∀ b, b < 2 * n → ∀ x ∈ M b, hb n x < m
theorem G1.fresh (k : G1 w a g t s nx n H L) (hc : Chg (fun _ => False) w w') : G1 w' a g t s nx n H L := ⟨k.tl.fresh hc, hc.keep k.blk id, k.off⟩
theorem G2.fresh (k : G2 w a g t u s nx n m H L I M) (hc : Chg (fun _ => False) w w') : G2 w' a g t u s nx n m H L I M := ⟨k.tl.fresh hc, k.ul.fresh hc, k.ap, hc.keep k.blk id, k.off, k.ofu, k.lt, k.gone, k.moved⟩
/-- the blocks that a growing table's acts write -/
def T4 (a : Ar) (t u : Th) (g x : Nat) : Prop := T2 a t x ∨ T2 a u x ∨ x = g
theorem G1.far {S : Nat → Prop} (k : G1 w a g t s nx n H L) (hc : Chg (T2 a t) w w') : w'.heap[g]? = w.heap[g]? := by
  rw [k.blk]
  exact hc.keep k.blk fun h => k.off (.inr (.inr h))
/-! ### which table a key has -/
theorem bucket_key (hn : Pow n) (x : Nat) (W : World) : Calls Try.prog 73 #[.int .u32 (num (keyS x)), (.int .i64 n)] W fun e w' => e = .returned (.tuple #[.int .i64 (hb n x), .int .i64 0]) ∧ w' = W := by
  have nr := num_range (keyS x)
  have hr := hn.range
  have B := bucket_calls (num (keyS x)) n W nr.1 nr.2 (by omega) (by omega)
  have e : bucketP (num (keyS x)) n = ((hb n x : Int), 0) := by unfold bucketP; rw [if_pos hn, hb_int hn x]
  rw [e] at B
  exact B
theorem table_one (k : TM w a t n H cnt) (hn : Pow n) (hb : w.heap[g]? = some (.cells #[(.pointer (some ⟨a.g, 0, none⟩)), (.pointer (some ⟨t.b, 0, none⟩)), .pointer none, .int .i64 0] 141 (0, 0))) {x : Nat} (hx : x < 30) :
    Calls Try.prog 90 #[(.pointer (some ⟨g, 0, none⟩)), .string (keyS x)] w fun e w' => e = .returned (.pointer (some ⟨t.b, 0, none⟩)) ∧ Dr w w' := by
  have c1 : w.cell? ⟨g, 1, none⟩ = some (.pointer (some ⟨t.b, 0, none⟩)) := by rw [blk_cell hb]; rfl
  have c2 : w.cell? ⟨g, 2, none⟩ = some (.pointer none) := by rw [blk_cell hb]; rfl
  have SZ := Lib.hid (size_calls k)
  have S := Lib.hid (fun W => sum_calls (keyS x) W (keyS_size hx))
  have B := Lib.hid (fun W => bucket_key hn x W)
  generalize keyS x = key at S B
  clear k hb hn
  go_enter Try.func90, Try.ntmps90
  go_wp2_with fail
  refine SZ.out.mono ?_
  rintro e w1 ⟨rfl, hd⟩
  have d1 := (hd.chg (fun _ => False)).cell c1 id
  have d2 := (hd.chg (fun _ => False)).cell c2 id
  replace hd := Lib.hid hd
  clear c1 c2 SZ
  go_wp2_with fail
  refine (S.out _).mono ?_
  rintro e w2 ⟨rfl, rfl⟩
  go_wp2_with fail
  refine (B.out _).mono ?_
  rintro e w2 ⟨rfl, rfl⟩
  go_wp2_with fail
  go_ret
  exact ⟨rfl, hd.out⟩
theorem table_two {ub : Nat} (k : TM w a t n H cnt) (hn : Pow n) (hblk : w.heap[g]? = some (.cells #[(.pointer (some ⟨a.g, 0, none⟩)), (.pointer (some ⟨t.b, 0, none⟩)), (.pointer (some ⟨ub, 0, none⟩)), .int .i64 m] 141 (0, 0))) {x : Nat} (hx : x < 30) :
    Calls Try.prog 90 #[(.pointer (some ⟨g, 0, none⟩)), .string (keyS x)] w fun e w' => e = .returned (if hb n x < m then (.pointer (some ⟨ub, 0, none⟩)) else (.pointer (some ⟨t.b, 0, none⟩))) ∧ Dr w w' := by
  have c1 : w.cell? ⟨g, 1, none⟩ = some (.pointer (some ⟨t.b, 0, none⟩)) := by rw [blk_cell hblk]; rfl
  have c2 : w.cell? ⟨g, 2, none⟩ = some (.pointer (some ⟨ub, 0, none⟩)) := by rw [blk_cell hblk]; rfl
  have c3 : w.cell? ⟨g, 3, none⟩ = some (.int .i64 m) := by rw [blk_cell hblk]; rfl
  have SZ := Lib.hid (size_calls k)
  have S := Lib.hid (fun W => sum_calls (keyS x) W (keyS_size hx))
  have B := Lib.hid (fun W => bucket_key hn x W)
  generalize keyS x = key at S B
  generalize hb n x = y at B
  clear k hblk hn
  by_cases hy : y < m
  · have hy' : (y : Int) < m := by omega
    rw [if_pos hy]
    clear hy
    go_enter Try.func90, Try.ntmps90
    go_wp2_with fail
    refine SZ.out.mono ?_
    rintro e w1 ⟨rfl, hd⟩
    have d1 := (hd.chg (fun _ => False)).cell c1 id
    have d2 := (hd.chg (fun _ => False)).cell c2 id
    have d3 := (hd.chg (fun _ => False)).cell c3 id
    replace hd := Lib.hid hd
    clear c1 c2 c3 SZ
    go_wp2_with fail
    refine (S.out _).mono ?_
    rintro e w2 ⟨rfl, rfl⟩
    go_wp2_with fail
    refine (B.out _).mono ?_
    rintro e w2 ⟨rfl, rfl⟩
    go_wp2_with fail
    go_ret
    exact ⟨rfl, hd.out⟩
  · have hy' : ¬ (y : Int) < m := by omega
    rw [if_neg hy]
    clear hy
    go_enter Try.func90, Try.ntmps90
    go_wp2_with fail
    refine SZ.out.mono ?_
    rintro e w1 ⟨rfl, hd⟩
    have d1 := (hd.chg (fun _ => False)).cell c1 id
    have d2 := (hd.chg (fun _ => False)).cell c2 id
    have d3 := (hd.chg (fun _ => False)).cell c3 id
    replace hd := Lib.hid hd
    clear c1 c2 c3 SZ
    go_wp2_with fail
    refine (S.out _).mono ?_
    rintro e w2 ⟨rfl, rfl⟩
    go_wp2_with fail
    refine (B.out _).mono ?_
    rintro e w2 ⟨rfl, rfl⟩
    go_wp2_with fail
    go_ret
    exact ⟨rfl, hd.out⟩
/-! ### Find, Delete, Insert: a key's table answers -/
theorem Find_of {p : Nat} {x : Nat} {V : Value} (T : Calls Try.prog 90 #[(.pointer (some ⟨g, 0, none⟩)), .string (keyS x)] w fun e w' => e = .returned (.pointer (some ⟨p, 0, none⟩)) ∧ Dr w w')
    (F : ∀ W, Dr w W → Calls Try.prog 32 #[(.pointer (some ⟨p, 0, none⟩)), .string (keyS x)] W fun e w' => (∃ y b, V = .tuple #[y, b]) ∧ e = .returned V ∧ Chg (fun _ => False) W w') :
    Calls Try.prog 55 #[(.pointer (some ⟨g, 0, none⟩)), .string (keyS x)] w fun e w' => e = .returned V ∧ Chg (fun _ => False) w w' := by
  replace T := Lib.hid T
  replace F := Lib.hid F
  generalize keyS x = key at T F
  go_enter Try.func55, Try.ntmps55
  go_wp2_with fail
  refine T.out.mono ?_
  rintro e w1 ⟨rfl, hd⟩
  replace hd := Lib.hid hd
  go_wp2_with fail
  refine (F.out _ hd.out).mono ?_
  rintro e w2 ⟨⟨y, b, rfl⟩, rfl, hc⟩
  have C := Lib.hid ((hd.out.chg (fun _ => False)).trans hc)
  clear hc F T
  go_wp2_with fail
  go_ret2
  exact ⟨rfl, C.out⟩
theorem Delete_of {p : Nat} {x : Nat} {V : Value} {R : World → World → Prop} (T : Calls Try.prog 90 #[(.pointer (some ⟨g, 0, none⟩)), .string (keyS x)] w fun e w' => e = .returned (.pointer (some ⟨p, 0, none⟩)) ∧ Dr w w')
    (F : ∀ W, Dr w W → Calls Try.prog 29 #[(.pointer (some ⟨p, 0, none⟩)), .string (keyS x)] W fun e w' => (∃ y b, V = .tuple #[y, b]) ∧ e = .returned V ∧ R W w') :
    Calls Try.prog 54 #[(.pointer (some ⟨g, 0, none⟩)), .string (keyS x)] w fun e w' => e = .returned V ∧ ∃ W, Dr w W ∧ R W w' := by
  replace T := Lib.hid T
  replace F := Lib.hid F
  generalize keyS x = key at T F
  go_enter Try.func54, Try.ntmps54
  go_wp2_with fail
  refine T.out.mono ?_
  rintro e w1 ⟨rfl, hd⟩
  replace hd := Lib.hid hd
  go_wp2_with fail
  refine (F.out _ hd.out).mono ?_
  rintro e w2 ⟨⟨y, b, rfl⟩, rfl, hc⟩
  replace hc := Lib.hid hc
  clear F T
  go_wp2_with fail
  go_ret2
  exact ⟨rfl, _, hd.out, hc.out⟩
theorem Insert_of {p : Nat} {x : Nat} {V : Value} {R : World → World → Prop} (c0 : w.cell? ⟨g, 0, none⟩ = some (.pointer (some ⟨a.g, 0, none⟩))) (hx : x < 30)
    (K : Calls Try.prog 42 #[(.pointer (some ⟨a.g, 0, none⟩)), (.int .i64 (64 * (x : Int)))] w fun e w' => e = .returned (.tuple #[.string (keyS x), .int .i64 0]) ∧ Chg (fun _ => False) w w')
    (T : ∀ W, Chg (fun _ => False) w W → Calls Try.prog 90 #[(.pointer (some ⟨g, 0, none⟩)), .string (keyS x)] W fun e w' => e = .returned (.pointer (some ⟨p, 0, none⟩)) ∧ Dr W w')
    (F : ∀ W, Chg (fun _ => False) w W → Calls Try.prog 30 #[(.pointer (some ⟨p, 0, none⟩)), (.int .i64 (64 * (x : Int)))] W fun e w' => e = .returned V ∧ R W w') :
    Calls Try.prog 48 #[(.pointer (some ⟨g, 0, none⟩)), (.int .i64 (64 * (x : Int)))] w fun e w' => e = .returned V ∧ ∃ W, Chg (fun _ => False) w W ∧ R W w' := by
  replace K := Lib.hid K
  replace T := Lib.hid T
  replace F := Lib.hid F
  generalize keyS x = key at K T
  go_enter Try.func48, Try.ntmps48
  go_wp2_with fail
  refine K.out.mono ?_
  rintro e w1 ⟨rfl, hc⟩
  replace hc := Lib.hid hc
  clear K c0
  go_wp2_with fail
  refine (T.out _ hc.out).mono ?_
  rintro e w2 ⟨rfl, hd⟩
  have C2 := Lib.hid (hc.out.trans (hd.chg _))
  clear hd T hc
  go_wp2_with fail
  refine (F.out _ C2.out).mono ?_
  rintro e w3 ⟨rfl, hr⟩
  replace hr := Lib.hid hr
  clear F
  go_wp2_with fail
  go_ret
  exact ⟨rfl, _, C2.out, hr.out⟩
/-! ### State, New -/
theorem state_calls {uv : Value} {on : Bool} (k : TM w a t n H cnt) (hu : uv = .pointer none ∧ on = false ∨ (∃ q, uv = (.pointer (some ⟨q, 0, none⟩))) ∧ on = true) (hblk : w.heap[g]? = some (.cells #[(.pointer (some ⟨a.g, 0, none⟩)), (.pointer (some ⟨t.b, 0, none⟩)), uv, .int .i64 m] 141 (0, 0))) :
    Calls Try.prog 53 #[(.pointer (some ⟨g, 0, none⟩))] w fun e w' => e = .returned (.tuple #[.int .i64 n, .int .i64 m, .bool on]) ∧ Dr w w' := by
  have c1 : w.cell? ⟨g, 1, none⟩ = some (.pointer (some ⟨t.b, 0, none⟩)) := by rw [blk_cell hblk]; rfl
  have c2 : w.cell? ⟨g, 2, none⟩ = some uv := by rw [blk_cell hblk]; rfl
  have c3 : w.cell? ⟨g, 3, none⟩ = some (.int .i64 m) := by rw [blk_cell hblk]; rfl
  have SZ := Lib.hid (size_calls k)
  clear k hblk
  rcases hu with ⟨rfl, rfl⟩ | ⟨⟨q, rfl⟩, rfl⟩
  all_goals
    (go_enter Try.func53, Try.ntmps53
     go_wp2_with fail
     refine SZ.out.mono ?_
     rintro e w1 ⟨rfl, hd⟩
     have d2 := (hd.chg (fun _ => False)).cell c2 id
     have d3 := (hd.chg (fun _ => False)).cell c3 id
     replace hd := Lib.hid hd
     clear c1 c2 c3 SZ
     go_wp2_with fail
     go_quiet (fail)
     go_wp2_with fail
     go_ret3
     exact ⟨rfl, hd.out.step nq⟩)
theorem t3_low (k : TL w a t s nx n H L) : ∀ x, T3 a t x → x < w.heap.size := by
  intro x hx
  rcases hx with rfl | rfl | hx | rfl | rfl
  · exact blk_lt k.lies.head
  · exact World.block_lt_of_cell? w _ (k.lies.row 0 k.lies.ok.low)
  · obtain ⟨i, hi, rfl⟩ := k.lies.of_mem hx
    exact blk_lt (k.lies.page i hi)
  · exact blk_lt k.tm.head
  · exact blk_lt k.tm.row
theorem grow_new (hl : Lies w a s) (hns : NS s nx) : Calls Try.prog 47 #[(.pointer (some ⟨a.g, 0, none⟩))] w fun e w' => ∃ g t, e = .returned (.pointer (some ⟨g, 0, none⟩)) ∧ G1 w' a g t s nx 8 (List.replicate 8 (-1)) (fun _ => []) ∧ Chg (fun _ => False) w w' ∧ w.heap.size ≤ t.b ∧ w.heap.size ≤ t.h ∧ w.heap.size ≤ g := by
  have N := Lib.hid (new_ok hl hns (n := 8) (by unfold Fnv.Pow; decide))
  go_enter Try.func47, Try.ntmps47
  go_wp2_with fail
  refine N.out.mono ?_
  rintro e w1 ⟨t, rfl, k, hc, l1, l2⟩
  have K := Lib.hid k
  have C := Lib.hid hc
  have LL := Lib.hid (And.intro l1 l2)
  clear k hc l1 l2 N
  go_wp2_with fail
  go_ret
  have e := heap_alloc_at w1 (.cells #[(.pointer (some ⟨a.g, 0, none⟩)), (.pointer (some ⟨t.b, 0, none⟩)), .pointer none, .int .i64 0] 141)
  have CA := Chg.alloc (fun _ => False) w1 (.cells #[(.pointer (some ⟨a.g, 0, none⟩)), (.pointer (some ⟨t.b, 0, none⟩)), .pointer none, .int .i64 0] 141)
  exact ⟨_, t, rfl, ⟨K.out.fresh CA, e, fun h => by have := t3_low K.out _ h; omega⟩, C.out.trans CA, LL.out.1, LL.out.2, C.out.size⟩
end Go.Proofs.Ytolpjgpimholcaa.Grow

/- Chapter 11's Start, tables, Len, All. -/
namespace Go.Proofs.Ytolpjgpimholcaa.Grow
open Go Go.RowKit Go.Proofs.Ytolpjgpimholcaa.Mem Go.Proofs.Ytolpjgpimholcaa.CodecPure Go.Proofs.Ytolpjgpimholcaa.ArenaPure Go.Proofs.Ytolpjgpimholcaa.Codec Go.Proofs.Ytolpjgpimholcaa.Arena Go.Proofs.Ytolpjgpimholcaa.Item Go.Proofs.Ytolpjgpimholcaa.Fnv Go.Proofs.Ytolpjgpimholcaa.Assoc
set_option linter.unusedVariables false
set_option maxRecDepth 100000
variable {w w' : World} {a : Ar} {t u : Th} {g : Nat} {s s' : St} {nx nx' : Nat → Int} {n m cnt : Nat} {H I H' : List Int} {L M L' : Nat → List Nat}
theorem start_on {uv : Value} {q : Nat} (k : TM w a t n H cnt) (hblk : w.heap[g]? = some (.cells #[(.pointer (some ⟨a.g, 0, none⟩)), (.pointer (some ⟨t.b, 0, none⟩)), (.pointer (some ⟨q, 0, none⟩)), .int .i64 m] 141 (0, 0))) :
    Calls Try.prog 49 #[(.pointer (some ⟨g, 0, none⟩))] w fun e w' => e = .returned (.int .i64 5) ∧ Dr w w' := by
  have c1 : w.cell? ⟨g, 1, none⟩ = some (.pointer (some ⟨t.b, 0, none⟩)) := by rw [blk_cell hblk]; rfl
  have c2 : w.cell? ⟨g, 2, none⟩ = some (.pointer (some ⟨q, 0, none⟩)) := by rw [blk_cell hblk]; rfl
  have SZ := Lib.hid (size_calls k)
  clear k hblk
  go_enter Try.func49, Try.ntmps49
  go_wp2_with fail
  refine SZ.out.mono ?_
  rintro e w1 ⟨rfl, hd⟩
  have d2 := (hd.chg (fun _ => False)).cell c2 id
  replace hd := Lib.hid hd
  clear c1 c2 SZ
  go_wp2_with fail
  go_ret
  exact ⟨rfl, hd.out⟩
theorem start_full (k : TM w a t 64 H cnt) (hblk : w.heap[g]? = some (.cells #[(.pointer (some ⟨a.g, 0, none⟩)), (.pointer (some ⟨t.b, 0, none⟩)), .pointer none, .int .i64 0] 141 (0, 0))) :
    Calls Try.prog 49 #[(.pointer (some ⟨g, 0, none⟩))] w fun e w' => e = .returned (.int .i64 2) ∧ Dr w w' := by
  have c1 : w.cell? ⟨g, 1, none⟩ = some (.pointer (some ⟨t.b, 0, none⟩)) := by rw [blk_cell hblk]; rfl
  have c2 : w.cell? ⟨g, 2, none⟩ = some (.pointer none) := by rw [blk_cell hblk]; rfl
  have SZ := Lib.hid (size_calls k)
  clear k hblk
  go_enter Try.func49, Try.ntmps49
  go_wp2_with fail
  refine SZ.out.mono ?_
  rintro e w1 ⟨rfl, hd⟩
  have d2 := (hd.chg (fun _ => False)).cell c2 id
  replace hd := Lib.hid hd
  clear c1 c2 SZ
  go_wp2_with fail
  go_ret
  exact ⟨rfl, hd.out⟩
theorem pow_twice {n : Nat} (hn : Fnv.Pow n) (h : n ≠ 64) : Fnv.Pow ((2 * n : Nat) : Int) := by
  unfold Fnv.Pow at *
  omega
theorem gset2 {x0 x1 x2 x3 v : Value} (h : w.heap[g]? = some (.cells #[x0, x1, x2, x3] 141 (0, 0))) : (w.setCell ⟨g, 2, none⟩ v).heap[g]? = some (.cells #[x0, x1, v, x3] 141 (0, 0)) := by
  rw [setCell_row h, setRow_heap w _ _ _ _ (0, 0) h]; rfl
theorem gset1 {x0 x1 x2 x3 v : Value} (h : w.heap[g]? = some (.cells #[x0, x1, x2, x3] 141 (0, 0))) : (w.setCell ⟨g, 1, none⟩ v).heap[g]? = some (.cells #[x0, v, x2, x3] 141 (0, 0)) := by
  rw [setCell_row h, setRow_heap w _ _ _ _ (0, 0) h]; rfl
theorem gset3 {x0 x1 x2 x3 v : Value} (h : w.heap[g]? = some (.cells #[x0, x1, x2, x3] 141 (0, 0))) : (w.setCell ⟨g, 3, none⟩ v).heap[g]? = some (.cells #[x0, x1, x2, v] 141 (0, 0)) := by
  rw [setCell_row h, setRow_heap w _ _ _ _ (0, 0) h]; rfl
theorem _root_.Go.Proofs.Ytolpjgpimholcaa.Assoc.TL.skip {S : Nat → Prop} (k : TL w a t s nx n H L) (hc : Chg S w w') (h : ∀ x, T3 a t x → ¬ S x) : TL w' a t s nx n H L :=
  ⟨k.lies.chg hc (h _ (.inl rfl)) (h _ (.inr (.inl rfl))) fun b hb => h b (.inr (.inr (.inl hb))), k.ns, k.tm.chg hc (h _ (.inr (.inr (.inr (.inl rfl))))) (h _ (.inr (.inr (.inr (.inr rfl))))), k.ti⟩
theorem start_new (k : G1 w a g t s nx n H L) (hn : n ≠ 64) :
    Calls Try.prog 49 #[(.pointer (some ⟨g, 0, none⟩))] w fun e w' => e = .returned (.int .i64 0) ∧ ∃ u, G2 w' a g t u s nx n 0 H L (List.replicate (2 * n) (-1)) (fun _ => []) ∧ Chg (fun x => x = g) w w' ∧ w.heap.size ≤ u.b ∧ w.heap.size ≤ u.h := by
  have c0 : w.cell? ⟨g, 0, none⟩ = some (.pointer (some ⟨a.g, 0, none⟩)) := by rw [blk_cell k.blk]; rfl
  have c1 : w.cell? ⟨g, 1, none⟩ = some (.pointer (some ⟨t.b, 0, none⟩)) := by rw [blk_cell k.blk]; rfl
  have c2 : w.cell? ⟨g, 2, none⟩ = some (.pointer none) := by rw [blk_cell k.blk]; rfl
  have SZ := Lib.hid (size_calls k.tl.tm)
  have NW := fun W (h : Chg (fun _ => False) w W) => new_ok (k.tl.fresh h).lies k.tl.ns (pow_twice k.tl.ti.pow hn)
  rw [show ((2 * n : Nat) : Int) = (n : Int) * 2 by omega] at NW
  replace NW := Lib.hid NW
  have n1 : ¬ (n : Int) = 64 := by omega
  have ne1 : ((n : Int) == 64) = false := by rw [beq_eq_false_iff_ne]; exact n1
  have nr := k.tl.ti.pow.range
  have T0 : Hid (t.b < w.heap.size ∧ t.h < w.heap.size) := ⟨t3_low k.tl _ (.inr (.inr (.inr (.inl rfl)))), t3_low k.tl _ (.inr (.inr (.inr (.inr rfl))))⟩
  have gl := Lib.hid (blk_lt k.blk)
  have K := Lib.hid k
  clear k hn
  go_enter Try.func49, Try.ntmps49
  go_wp2_with fail
  refine SZ.out.mono ?_
  rintro e w1 ⟨rfl, hd⟩
  have d0 := (hd.chg (fun _ => False)).cell c0 id
  have d2 := (hd.chg (fun _ => False)).cell c2 id
  replace hd := Lib.hid hd
  clear c0 c1 c2 SZ
  go_wp2_with fail
  refine (NW.out _ (hd.out.chg _)).mono ?_
  rintro e w2 ⟨u, rfl, ku, hc, l1, l2⟩
  have C2 := Lib.hid ((hd.out.chg (fun _ => False)).trans hc)
  have K2 := K.out.fresh C2.out
  have z2 := blk_frozen K2.blk 2
  have y2 : w2.cell? ⟨g, 2, none⟩ = some (.pointer none) := by rw [blk_cell K2.blk]; rfl
  replace K2 := Lib.hid K2
  have U2 := Lib.hid ku
  have LL := Lib.hid (And.intro (Nat.le_trans (hd.out.chg (fun _ => False)).size l1) (Nat.le_trans (hd.out.chg (fun _ => False)).size l2))
  clear hc ku l1 l2 d0 d2 K NW
  go_wp2_with fail
  go_ret
  have CS : Chg (fun x => x = g) w2 (w2.setCell ⟨g, 2, none⟩ (.pointer (some ⟨u.b, 0, none⟩))) := Chg.setCell _ _ _ rfl
  have lt := t3_low K2.out.tl
  obtain ⟨L1, L2⟩ := LL.out
  have tb := T0.out
  have gl := gl.out
  have fu : ¬ T3 a u g := fun h => by
    rcases h with h | h | h | h | h
    · exact K2.out.off (.inl h)
    · exact K2.out.off (.inr (.inl h))
    · exact K2.out.off (.inr (.inr (.inl h)))
    · omega
    · omega
  refine ⟨rfl, u, ⟨K2.out.tl.skip CS fun x hx e => K2.out.off (e ▸ hx), U2.out.skip CS fun x hx e => fu (e ▸ hx), ⟨by omega, by omega, by omega, by omega⟩, gset2 K2.out.blk, K2.out.off, fu, by omega, fun b hb => by omega, fun b _ x hx => by simp at hx⟩, (C2.out.mono fun _ _ h => h.elim).trans CS, L1, L2⟩
/-! ### tables -/
theorem tables_one (hblk : w.heap[g]? = some (.cells #[(.pointer (some ⟨a.g, 0, none⟩)), (.pointer (some ⟨t.b, 0, none⟩)), .pointer none, .int .i64 0] 141 (0, 0))) :
    Calls Try.prog 91 #[(.pointer (some ⟨g, 0, none⟩))] w fun e w' => e = .returned (.slice (some ⟨w.heap.size, 0, none⟩) 1 1) ∧ w' = w.alloc (.cells #[(.pointer (some ⟨t.b, 0, none⟩))] 56) := by
  have c1 : w.cell? ⟨g, 1, none⟩ = some (.pointer (some ⟨t.b, 0, none⟩)) := by rw [blk_cell hblk]; rfl
  have c2 : w.cell? ⟨g, 2, none⟩ = some (.pointer none) := by rw [blk_cell hblk]; rfl
  clear hblk
  go_enter Try.func91, Try.ntmps91
  go_wp2_with fail
  go_ret
  exact ⟨rfl, rfl⟩
theorem tables_two (hblk : w.heap[g]? = some (.cells #[(.pointer (some ⟨a.g, 0, none⟩)), (.pointer (some ⟨t.b, 0, none⟩)), (.pointer (some ⟨u.b, 0, none⟩)), .int .i64 m] 141 (0, 0))) :
    Calls Try.prog 91 #[(.pointer (some ⟨g, 0, none⟩))] w fun e w' => ∃ q, e = .returned (.slice (some ⟨q, 0, none⟩) 2 2) ∧ w'.heap[q]? = some (.cells #[(.pointer (some ⟨t.b, 0, none⟩)), (.pointer (some ⟨u.b, 0, none⟩))] 56 (0, 0)) ∧ Chg (fun _ => False) w w' := by
  have c1 : w.cell? ⟨g, 1, none⟩ = some (.pointer (some ⟨t.b, 0, none⟩)) := by rw [blk_cell hblk]; rfl
  have c2 : w.cell? ⟨g, 2, none⟩ = some (.pointer (some ⟨u.b, 0, none⟩)) := by rw [blk_cell hblk]; rfl
  clear hblk
  go_enter Try.func91, Try.ntmps91
  go_wp2_with fail
  go_region
  all_goals go_wp2_with fail
  all_goals go_ret
  all_goals exact ⟨_, rfl, heap_alloc_at w (.cells #[(.pointer (some ⟨t.b, 0, none⟩)), (.pointer (some ⟨u.b, 0, none⟩))] 56), (Chg.alloc _ _ _).trans (Chg.drew _ _)⟩
end Go.Proofs.Ytolpjgpimholcaa.Grow

/- Chapter 11's Len and All, over whichever tables there are. -/
namespace Go.Proofs.Ytolpjgpimholcaa.Grow
open Go Go.RowKit Go.Proofs.Ytolpjgpimholcaa.Mem Go.Proofs.Ytolpjgpimholcaa.CodecPure Go.Proofs.Ytolpjgpimholcaa.ArenaPure Go.Proofs.Ytolpjgpimholcaa.Codec Go.Proofs.Ytolpjgpimholcaa.Arena Go.Proofs.Ytolpjgpimholcaa.Item Go.Proofs.Ytolpjgpimholcaa.Fnv Go.Proofs.Ytolpjgpimholcaa.Assoc
set_option linter.unusedVariables false
set_option maxRecDepth 100000
variable {w w' : World} {g : Nat}
/-- a table as Len and All see it: where it is, how many buckets, which items -/
abbrev Pt := Nat × Nat × (Nat → List Nat)
def tot (l : List Pt) : Nat := (l.map fun p => total p.2.2 p.2.1).sum
def items (l : List Pt) : List Nat := l.flatMap fun p => cat p.2.2 p.2.1
theorem tot_snoc (l : List Pt) (i : Nat) (hi : i < l.length) (d : Pt) : tot (l.take (i + 1)) = tot (l.take i) + total (l.getD i d).2.2 (l.getD i d).2.1 := by
  rw [show l.take (i + 1) = l.take i ++ [l.getD i d] by rw [List.take_succ_eq_append_getElem hi, List.getD_eq_getElem?_getD, List.getElem?_eq_getElem hi]; rfl]
  unfold tot
  rw [List.map_append, List.sum_append]
  simp
theorem items_snoc (l : List Pt) (i : Nat) (hi : i < l.length) (d : Pt) : items (l.take (i + 1)) = items (l.take i) ++ cat (l.getD i d).2.2 (l.getD i d).2.1 := by
  rw [show l.take (i + 1) = l.take i ++ [l.getD i d] by rw [List.take_succ_eq_append_getElem hi, List.getD_eq_getElem?_getD, List.getElem?_eq_getElem hi]; rfl]
  unfold items
  rw [List.flatMap_append]
  simp
def p0 : Pt := (0, 0, fun _ => [])
theorem items_len (l : List Pt) : (items l).length = tot l := by
  unfold items tot
  rw [List.length_flatMap]
  congr 1
  exact List.map_congr_left fun p _ => cat_len _ _
theorem tot_take (l : List Pt) (i : Nat) : tot (l.take i) ≤ tot l := by
  conv => rhs; rw [← List.take_append_drop i l]
  unfold tot
  rw [List.map_append, List.sum_append]
  omega
theorem len_of (ps : List Pt) (h2 : ps.length ≤ 2) (hm : tot ps ≤ 100000)
    (T : Calls Try.prog 91 #[(.pointer (some ⟨g, 0, none⟩))] w fun e w' => ∃ q, e = .returned (.slice (some ⟨q, 0, none⟩) ps.length ps.length) ∧ (∀ i, i < ps.length → w'.cell? ⟨q, i, none⟩ = some (.pointer (some ⟨(ps.getD i p0).1, 0, none⟩))) ∧ Chg (fun _ => False) w w')
    (S : ∀ W i, Chg (fun _ => False) w W → i < ps.length → Calls Try.prog 34 #[(.pointer (some ⟨(ps.getD i p0).1, 0, none⟩))] W fun e w' => e = .returned (.tuple #[.int .i64 (ps.getD i p0).2.1, .int .i64 (total (ps.getD i p0).2.2 (ps.getD i p0).2.1)]) ∧ Dr W w') :
    Calls Try.prog 50 #[(.pointer (some ⟨g, 0, none⟩))] w fun e w' => e = .returned (.int .i64 (tot ps)) ∧ Chg (fun _ => False) w w' := by
  replace T := Lib.hid T
  replace S := Lib.hid S
  obtain ⟨c, hc⟩ : ∃ c, ps.length = c := ⟨_, rfl⟩
  have T2 := T
  rw [hc] at h2 T2
  replace hc := Lib.hid hc
  clear T
  go_enter Try.func50, Try.ntmps50
  go_wp2_with fail
  refine T2.out.mono ?_
  rintro e w1 ⟨q, rfl, hq, C1⟩
  replace hq := Lib.hid hq
  replace C1 := Lib.hid C1
  clear T2
  go_wp2_with fail
  go_loopg [3, 11] c (fun g p i wr => ∃ k : Nat, p = .int .i64 (tot (ps.take k)) ∧ i = .int .i64 k ∧ g = c - k ∧ k ≤ c ∧ Hid (Chg (fun _ => False) w1 wr))
  case atStart => exact ⟨0, rfl, rfl, rfl, by omega, Chg.refl _ _⟩
  case round =>
    obtain ⟨k, rfl, rfl, hg, hk, C2⟩ := hrel
    replace hg := Lib.hid hg
    by_cases h1 : k < c
    · have h1' : (k : Int) < c := by omega
      have ck := C2.out.cell (hq.out k h1) id
      have SK := S.out wr k (C1.out.trans C2.out) (by rw [hc.out]; exact h1)
      have TS := tot_snoc ps k (by rw [hc.out]; exact h1) p0
      have TT := tot_take ps (k + 1)
      generalize (ps.getD k p0) = pt at ck SK TS
      obtain ⟨b, n, L⟩ := pt
      dsimp only at ck SK TS
      generalize total L n = y at SK TS
      generalize tot (ps.take k) = x at TS ⊢
      have ws : IntKind.i64.wrap ((x : Int) + (y : Int)) = ((x + y : Nat) : Int) := by rw [IntWalk.i64_in _ (by omega)]; omega
      replace TS := Lib.hid TS
      replace SK := Lib.hid SK
      replace TT := Lib.hid TT
      go_wp2_with fail
      refine SK.out.mono ?_
      rintro e w3 ⟨rfl, hd⟩
      have C3 := Lib.hid (C2.out.trans (hd.chg _))
      clear hd SK ck C2
      go_wp2_with fail
      go_roundg (c - (k + 1))
      case measure => have := hg.out; omega
      case rel => exact ⟨k + 1, by rw [TS.out, Int.natCast_add], rfl, rfl, by omega, C3.out⟩
    · have h1' : ¬ (k : Int) < c := by omega
      obtain rfl : k = c := by omega
      have e : ps.take k = ps := List.take_of_length_le (by rw [hc.out]; omega)
      rw [e]
      have C3 := Lib.hid (C1.out.trans C2.out)
      clear e C2
      go_wp2_with fail
      go_ret
      exact ⟨rfl, C3.out⟩
theorem infoInt : (Try.prog.info? 3).map (fun i => (i.zero, i.size, i.bytes)) = some (some (.int .i64 0), 1, 8) := by kernel_rfl
theorem cat_step (L : Nat → List Nat) (b : Nat) : cat L (b + 1) = cat L b ++ L b := rfl
theorem total_le (L : Nat → List Nat) {b n : Nat} (h : b ≤ n) : total L b ≤ total L n := by
  obtain ⟨d, rfl⟩ := Nat.exists_eq_add_of_le h
  clear h
  induction d with
  | zero => exact Nat.le_refl _
  | succ d ih => exact Nat.le_trans ih (Nat.le_add_right _ _)
def AEnd (w : World) (l : List Nat) (e : Ending) (w' : World) : Prop := ∃ A c, e = .returned (.slice A l.length c) ∧ Mem.Own w' w.heap.size 3 .i64 (.slice A l.length c) (pls l) ∧ Chg (fun _ => False) w w'
set_option maxHeartbeats 1000000 in
theorem all_of (ps : List Pt) (h2 : ps.length ≤ 2) (hm : tot ps ≤ 100000) (hn : ∀ p ∈ ps, p.2.1 ≤ 100000)
    (T : Calls Try.prog 91 #[(.pointer (some ⟨g, 0, none⟩))] w fun e w' => ∃ q, e = .returned (.slice (some ⟨q, 0, none⟩) ps.length ps.length) ∧ (∀ i, i < ps.length → w'.cell? ⟨q, i, none⟩ = some (.pointer (some ⟨(ps.getD i p0).1, 0, none⟩))) ∧ Chg (fun _ => False) w w')
    (S : ∀ W i, Chg (fun _ => False) w W → i < ps.length → Calls Try.prog 34 #[(.pointer (some ⟨(ps.getD i p0).1, 0, none⟩))] W fun e w' => e = .returned (.tuple #[.int .i64 (ps.getD i p0).2.1, .int .i64 (total (ps.getD i p0).2.2 (ps.getD i p0).2.1)]) ∧ Dr W w')
    (BK : ∀ W i b, Chg (fun _ => False) w W → i < ps.length → b < (ps.getD i p0).2.1 → Calls Try.prog 33 #[(.pointer (some ⟨(ps.getD i p0).1, 0, none⟩)), (.int .i64 b)] W (BEnd W (pls ((ps.getD i p0).2.2 b)))) :
    Calls Try.prog 52 #[(.pointer (some ⟨g, 0, none⟩))] w (AEnd w (items ps)) := by
  replace S := Lib.hid S
  replace BK := Lib.hid BK
  obtain ⟨c, hc⟩ : ∃ c, ps.length = c := ⟨_, rfl⟩
  have hp0 : ∀ i, i < c → (ps.getD i p0).2.1 ≤ 100000 := fun i hi => hn _ (by rw [List.getD_eq_getElem?_getD, List.getElem?_eq_getElem (by omega)]; exact List.getElem_mem _)
  replace hp0 := Lib.hid hp0
  rw [hc] at h2 T S BK
  replace T := Lib.hid T
  have hmm := Lib.hid hm
  replace hc := Lib.hid hc
  obtain ⟨B, hB⟩ : ∃ B, w.heap.size = B := ⟨_, rfl⟩
  have F : Hid (∀ A c e w', e = Ending.returned (.slice A (items ps).length c) → Mem.Own w' w.heap.size 3 .i64 (.slice A (items ps).length c) (pls (items ps)) → Chg (fun _ => False) w w' → AEnd w (items ps) e w') := fun A c e w' h1 h2 h3 => ⟨A, c, h1, h2, h3⟩
  rw [hB] at F
  replace hB := Lib.hid hB
  clear hn hm
  go_enter Try.func52, Try.ntmps52
  go_wp2_with fail
  refine T.out.mono ?_
  rintro e w1 ⟨q, rfl, hq, C1⟩
  replace hq := Lib.hid hq
  replace C1 := Lib.hid C1
  have bq : Hid (∀ k, k < c → ∀ W, Chg (fun b => w1.heap.size ≤ b) w1 W → W.cell? ⟨q, k, none⟩ = some (.pointer (some ⟨(ps.getD k p0).1, 0, none⟩))) := fun k hk W hW => hW.cell (hq.out k hk) (by have := World.block_lt_of_cell? w1 _ (hq.out k hk); show ¬ _ ≤ q; have : q < w1.heap.size := this; omega)
  clear T
  go_wp2_with fail
  go_loopg [3, 14] c (fun g p i wr => ∃ (k : Nat) (A : Option Addr) (d : Nat), p = .slice A (items (ps.take k)).length d ∧ i = .int .i64 k ∧ g = c - k ∧ k ≤ c ∧ Hid (Mem.Own wr w1.heap.size 3 .i64 (.slice A (items (ps.take k)).length d) (pls (items (ps.take k)))) ∧ Hid (Chg (fun b => w1.heap.size ≤ b) w1 wr))
  case atStart => exact ⟨0, none, 0, rfl, rfl, rfl, by omega, Mem.Own.nil _ _ _ _, Chg.refl _ _⟩
  case round =>
    obtain ⟨k, A, d, rfl, rfl, hg, hk, O2, C2⟩ := hrel
    replace hg := Lib.hid hg
    by_cases h1 : k < c
    · have h1' : (k : Int) < c := by omega
      have ck := bq.out k h1 wr C2.out
      have TS := Lib.hid (tot_snoc ps k (by rw [hc.out]; exact h1) p0)
      have IS := Lib.hid (items_snoc ps k (by rw [hc.out]; exact h1) p0)
      have IL := Lib.hid (items_len (ps.take k))
      have TT := tot_take ps (k + 1)
      have PN := hp0.out k h1
      have CF : Hid (∀ W, Chg (fun b => w1.heap.size ≤ b) w1 W → Chg (fun _ => False) w W) := fun W hW => C1.out.trans (hW.mono fun b h1 h2 => absurd h1 (Nat.not_lt.2 h2))
      have SK := Lib.hid (fun W (hW : Chg (fun b => w1.heap.size ≤ b) w1 W) => S.out W k (CF.out W hW) h1)
      have BKk := Lib.hid (fun W b (hW : Chg (fun b => w1.heap.size ≤ b) w1 W) => BK.out W k b (CF.out W hW) h1)
      generalize (ps.getD k p0) = pt at ck SK BKk TS IS PN
      obtain ⟨tb, n, L⟩ := pt
      dsimp only at ck SK BKk TS IS PN
      generalize items (ps.take k) = X at IS IL O2 ⊢
      go_wp2_with fail
      refine (SK.out _ C2.out).mono ?_
      rintro e w3 ⟨rfl, hd⟩
      have C3 : Hid (Chg (fun b => w1.heap.size ≤ b) w1 w3) := C2.out.trans (hd.chg _)
      have O3 := Lib.hid (Mem.Own.chg O2.out (hd.chg (fun _ => False)) fun _ _ h => h.elim)
      clear hd SK ck C2 O2
      go_wp2_with fail
      go_loopg [3, 24] n (fun g p i wr => ∃ (b : Nat) (A : Option Addr) (d : Nat), p = .slice A (X ++ cat L b).length d ∧ i = .int .i64 b ∧ g = n - b ∧ b ≤ n ∧ Hid (Mem.Own wr w1.heap.size 3 .i64 (.slice A (X ++ cat L b).length d) (pls (X ++ cat L b))) ∧ Hid (Chg (fun b => w1.heap.size ≤ b) w1 wr))
      case atStart =>
        refine ⟨0, A, d, ?_, rfl, rfl, Nat.zero_le _, ?_, C3.out⟩
        · rw [show X ++ cat L 0 = X from List.append_nil X]
        · rw [show X ++ cat L 0 = X from List.append_nil X]; exact O3.out
      case round =>
        clear O3 C3
        obtain ⟨b, A2, d2, rfl, rfl, hg2, hbn, O4, C4⟩ := hrel
        replace hg2 := Lib.hid hg2
        by_cases h3 : b < n
        · have h3' : (b : Int) < n := by omega
          have BB := Lib.hid (BKk.out wr b C4.out h3)
          have TL := total_le L (show b + 1 ≤ n from h3)
          have XL : Hid ((X ++ cat L b).length + (L b).length ≤ 100000) := by
            have h5 := IL.out
            have h6 := TS.out
            have h7 := cat_len L b
            have h8 := hmm.out
            have h9 : total L (b + 1) = total L b + (L b).length := rfl
            show _ ≤ _
            rw [List.length_append]
            omega
          have CS := Lib.hid (cat_step L b)
          clear TL
          go_wp2_with fail
          refine BB.out.mono ?_
          rintro e w5 ⟨A5, c5, rfl, ho, hc5⟩
          have O5 := Lib.hid ho
          have O4' := Lib.hid (Mem.Own.chg O4.out hc5 fun _ _ h => h.elim)
          have C5 : Hid (Chg (fun b => w1.heap.size ≤ b) w1 w5) := C4.out.trans (hc5.mono fun _ _ h => h.elim)
          have nil5 := Lib.hid ho.nilc
          clear ho hc5 BB O4 C4
          generalize hY : X ++ cat L b = Y at *
          replace hY := Lib.hid hY
          go_wp2_with (at_builtin; refine wpList_app rfl _ _ 27 rfl w1.heap.size 3 .i64 8 Try.underlying27 infoInt _ (pls Y) rfl O4'.out A5 (pls (L b)).length c5 (pls (L b)) rfl rfl O5.out.sl nil5.out ?h63 ?hby ?hba ?_; (case h63 => have := XL.out; rw [pls_length, pls_length]; unfold maxLen; omega); (case hby => have := XL.out; rw [pls_length, pls_length]; omega); (case hba => exact C5.out.size); intro A' c6 n' w6 hn' ho hc6; rw [pls_length, pls_length] at hn'; subst hn'; have O6 := Lib.hid ho; have C6 := Lib.hid (C5.out.trans hc6); clear ho hc6)
          go_roundg (n - (b + 1))
          case measure => have := hg2.out; omega
          case rel => exact ⟨b + 1, A', c6, by rw [CS.out, ← List.append_assoc, hY.out, List.length_append], rfl, rfl, by omega, by
            show Mem.Own _ _ _ _ _ _
            rw [CS.out, ← List.append_assoc, hY.out, List.length_append]
            have := O6.out
            unfold pls at *
            rw [List.map_append]
            exact this, C6.out⟩
        · have h3' : ¬ (b : Int) < n := by omega
          obtain rfl : b = n := by omega
          rw [← IS.out] at O4 ⊢
          replace O4 := Lib.hid O4.out
          clear BKk TS
          go_wp2_with fail
          go_roundg (c - (k + 1))
          case measure => have := hg.out; omega
          case rel => exact ⟨k + 1, A2, d2, rfl, rfl, rfl, by omega, O4.out, C4.out⟩
    · have h1' : ¬ (k : Int) < c := by omega
      obtain rfl : k = c := by omega
      have e : ps.take k = ps := List.take_of_length_le (by rw [hc.out]; omega)
      rw [e] at O2 ⊢
      have C3 : Hid (Chg (fun _ => False) w wr) := C1.out.trans (C2.out.mono fun b h1 h2 => by omega)
      have O3 := Lib.hid (Mem.Own.mono O2.out (show B ≤ _ by rw [← hB.out]; exact C1.out.size))
      clear e C2 O2
      go_wp2_with fail
      go_ret
      exact F.out _ _ _ _ rfl O3.out C3.out
end Go.Proofs.Ytolpjgpimholcaa.Grow

/- slices.Backward over a row of numbers: a function to range over. -/
namespace Go.Proofs.Ytolpjgpimholcaa.Grow
open Go Go.RowKit Go.Shelf Go.Proofs.Ytolpjgpimholcaa.Mem Go.Proofs.Ytolpjgpimholcaa.CodecPure Go.Proofs.Ytolpjgpimholcaa.ArenaPure Go.Proofs.Ytolpjgpimholcaa.Codec Go.Proofs.Ytolpjgpimholcaa.Arena Go.Proofs.Ytolpjgpimholcaa.Item Go.Proofs.Ytolpjgpimholcaa.Fnv Go.Proofs.Ytolpjgpimholcaa.Assoc
set_option linter.unusedVariables false
set_option maxRecDepth 100000
attribute [local go_sem] Oper.semAt_some
/-- what a round keeps: the blocks B1 and B2 -/
def Kb (B1 B2 : Nat) (A B : World) : Prop := B.heap[B1]? = A.heap[B1]? ∧ B.heap[B2]? = A.heap[B2]?
theorem Kb.trans {B1 B2 : Nat} {A B C : World} (h : Kb B1 B2 A B) (k : Kb B1 B2 B C) : Kb B1 B2 A C := ⟨k.1.trans h.1, k.2.trans h.2⟩
theorem Kb.cell {B1 B2 : Nat} {A B : World} (h : Kb B1 B2 A B) {p : Addr} (hp : p.block = B1 ∨ p.block = B2) : B.cell? p = A.cell? p := by
  unfold World.cell?
  rcases hp with e | e <;> rw [e]
  · rw [h.1]
  · rw [h.2]
/-- the places of a row, the last one first -/
def revs (k : Nat) : List (Fin k) := (List.finRange k).reverse
theorem revs_len (k : Nat) : (revs k).length = k := by simp [revs]
theorem revs_at {k j : Nat} (h : j < k) : (revs k)[j]'(by rw [revs_len]; exact h) = ⟨k - 1 - j, by omega⟩ := by
  unfold revs
  rw [List.getElem_reverse, List.getElem_finRange]
  simp
theorem revs_take {k j : Nat} (h : j < k) : (revs k).take (j + 1) = (revs k).take j ++ [⟨k - 1 - j, by omega⟩] := by
  rw [List.take_succ_eq_append_getElem (by rw [revs_len]; exact h), revs_at h]
def bv (l : List Int) (i : Fin l.length) : Array Value := #[.int .i64 (i.val : Int), .int .i64 (l.getD i.val 0)]
theorem fin_at {k : Nat} (i : Fin k) (j : Nat) (h : i.val = j) (hj : j < k) : i = ⟨j, hj⟩ := Fin.ext h
set_option maxHeartbeats 1000000 in
theorem back1_in (l0 : List Int) (hl0 : l0.length ≤ 1000000) (m lp Bn sb : Nat) (hn : 1 ≤ m) (A : Option Addr) (c : Nat) (J Jx : List (Fin l0.length) → World → Prop) (W : World)
    (hY : ∀ pre x W, J pre W → pre.length < l0.length → YieldAt Fence.wide (m - 1) Try.prog lp (bv l0 x) W fun e W' =>
      (e = .returned (.bool true) ∧ J (pre ++ [x]) W' ∧ Kb Bn sb W W') ∨ (e = .returned (.bool false) ∧ Jx (pre ++ [x]) W'))
    (hc : W.cell? ⟨Bn, 0, none⟩ = some (.slice A l0.length c)) (hs : Sl W .i64 A l0) (hsb : ∀ ad, A = some ad → ad.block = sb) (h0 : J [] W) :
    CallsIn Fence.wide m Try.prog 111 #[.func (.yield lp) #[] #[], (.pointer (some ⟨Bn, 0, none⟩))] W fun e W' => (∃ v, e = .returned v) ∧
      ((∃ ys, ys = revs l0.length ∧ J ys W') ∨ (∃ pre, pre <+: revs l0.length ∧ Jx pre W')) := by
  obtain ⟨k, hk⟩ : ∃ k, l0.length = k := ⟨_, rfl⟩
  have HY := Lib.hid hY
  have HS : Hid (∀ W', Kb Bn sb W W' → W'.cell? ⟨Bn, 0, none⟩ = some (.slice A k c) ∧ Sl W' .i64 A l0) := fun W' h => ⟨by rw [h.cell (.inl rfl), ← hk]; exact hc, fun i hi => by
    obtain ⟨ad, e, hv⟩ := hs i hi
    exact ⟨ad, e, by rw [h.cell (.inr (by show (ad.add i).block = sb; unfold Addr.add; split <;> exact hsb ad e))]; exact hv⟩⟩
  rw [hk] at hc hl0
  have H0 : Hid (J ((revs l0.length).take 0) W) := h0
  replace hk := Lib.hid hk
  clear hY hs hsb h0
  refine callsIn_of_wp Try.func111 rfl trivial ?_ rfl
  simp only [Try.ntmps111, List.size_toArray, List.length_cons, List.length_nil, Nat.reduceAdd, Nat.reduceSub, Array.replicate_succ, Array.replicate_zero, List.push_toArray, List.append_toArray, List.nil_append, List.cons_append]
  gi_wp2
  gi_loopw [3] (fun p wr => ∃ (j : Nat), p = .int .i64 ((k : Int) - 1 - j) ∧ j ≤ k ∧ Hid (Kb Bn sb W wr) ∧ Hid (J ((revs l0.length).take j) wr)) (fun p wr => match p with | .int _ x => (x + 1).toNat | _ => 0)
  case atStart =>
    exact ⟨0, by rw [Int.natCast_zero, Int.sub_zero], Nat.zero_le _, ⟨rfl, rfl⟩, H0.out⟩
  case round =>
    clear H0 hc
    obtain ⟨j, rfl, hj, K, JJ⟩ := hrel
    by_cases h1 : j < k
    · obtain ⟨d, hd⟩ : ∃ d : Nat, (k : Int) - 1 - (j : Int) = d := ⟨k - 1 - j, by omega⟩
      have dk : d < l0.length := by rw [hk.out]; omega
      have yy := HY.out _ ⟨d, dk⟩ wr JJ.out (by rw [List.length_take, revs_len, hk.out]; omega)
      have TK : Hid ((revs l0.length).take j ++ [⟨d, dk⟩] = (revs l0.length).take (j + 1)) := by
        have := revs_take (k := l0.length) (j := j) (by rw [hk.out]; exact h1)
        rw [this]
        have e : (⟨d, dk⟩ : Fin l0.length) = ⟨l0.length - 1 - j, by omega⟩ := Fin.ext (by show (d : Nat) = l0.length - 1 - j; have := hk.out; omega)
        rw [e]; exact rfl
      rw [TK.out] at yy
      unfold bv at yy
      dsimp only at yy
      obtain ⟨c0, s0⟩ := HS.out wr K.out
      obtain ⟨ad, rfl, cd⟩ := s0 d dk
      generalize l0.getD d 0 = xv at cd yy
      obtain ⟨fn, tmps, assign, body, hy, hR⟩ := yy
      replace hR := Lib.hid hR
      have d0 : (0 : Int) ≤ (d : Int) := by omega
      have d1 : (d : Int) < (k : Int) := by omega
      have hd2 := Lib.hid hd
      rw [hd]
      have nh : ¬ (d : Int) < 0 := by omega
      clear hd TK HY
      replace s0 := Lib.hid s0
      gi_wp2
      refine hR.out.mono ?_
      rintro e W3 (⟨rfl, hJ3, hk3⟩ | ⟨rfl, hJx3⟩)
      · have K3 : Hid (Kb Bn sb W W3) := K.out.trans hk3
        have J3 := Lib.hid hJ3
        clear hk3 hJ3 c0 cd hR
        gi_wp2
        go_roundw
        case rel => exact ⟨j + 1, by congr 1; have := hd2.out; omega, by omega, K3.out, J3.out⟩
        case measure => have := hd2.out; show ((d : Int) - 1 + 1).toNat < ((d : Int) + 1).toNat; omega
      · clear c0 cd hR
        gi_wp2
        refine bodyPost_ret (results_none rfl _ _ _) rfl ?_
        exact ⟨⟨_, rfl⟩, .inr ⟨_, List.take_prefix _ _, hJx3⟩⟩
    · obtain rfl : j = k := by omega
      have e1 : ((j : Int) - 1 - j) = -1 := by omega
      have e2 : (revs l0.length).take j = revs l0.length := List.take_of_length_le (by rw [revs_len, hk.out]; exact Nat.le_refl _)
      rw [e2] at JJ
      rw [e1]
      clear e1 e2 HY HS
      gi_wp2
      go_end0
      exact ⟨⟨_, rfl⟩, .inl ⟨_, rfl, JJ.out⟩⟩
theorem back_calls (A : Option Addr) (n c : Nat) (w : World) : Calls Try.prog 92 #[.slice A n c] w fun e w' => e = .returned (.func (.func 111) #[] #[(.pointer (some ⟨w.heap.size, 0, none⟩))]) ∧ w' = w.alloc (.cells #[.slice A n c] 27) := by
  go_enter Try.func92, Try.ntmps92
  go_wp2
  go_ret
  exact ⟨rfl, rfl⟩
theorem back_stops (l0 : List Int) (hl0 : l0.length ≤ 1000000) (m Bn sb : Nat) (hn : 1 ≤ m) (A : Option Addr) (c : Nat) (w1 : World)
    (hB1 : Bn < w1.heap.size) (hB2 : sb < w1.heap.size) (hc : w1.cell? ⟨Bn, 0, none⟩ = some (.slice A l0.length c)) (hs : Sl w1 .i64 A l0) (hsb : ∀ ad, A = some ad → ad.block = sb) :
    SeqStopsK Fence.wide m Try.prog 111 #[(.pointer (some ⟨Bn, 0, none⟩))] (bv l0) (Kb Bn sb) (fun ys => ys = revs l0.length) (fun pre => pre <+: revs l0.length) l0.length w1 := fun l J Jx W hW hJ _ hY h0 =>
  back1_in l0 hl0 m l Bn sb hn A c J Jx W hY ((hW.cell (p := ⟨Bn, 0, none⟩) hB1).trans hc) (fun i hi => by
    obtain ⟨ad, e, hv⟩ := hs i hi
    exact ⟨ad, e, (hW.cell (p := ad.add i) (by rw [show (ad.add i).block = sb from by unfold Addr.add; split <;> exact hsb ad e]; exact hB2)).trans hv⟩) hsb h0
end Go.Proofs.Ytolpjgpimholcaa.Grow

/- Chapter 11's Step: one bucket's items go over to the table of twice as many buckets. -/
namespace Go.Proofs.Ytolpjgpimholcaa.Grow
open Go Go.RowKit Go.Shelf Go.Proofs.Ytolpjgpimholcaa.Mem Go.Proofs.Ytolpjgpimholcaa.CodecPure Go.Proofs.Ytolpjgpimholcaa.ArenaPure Go.Proofs.Ytolpjgpimholcaa.Codec Go.Proofs.Ytolpjgpimholcaa.Arena Go.Proofs.Ytolpjgpimholcaa.Item Go.Proofs.Ytolpjgpimholcaa.Fnv Go.Proofs.Ytolpjgpimholcaa.Assoc
set_option linter.unusedVariables false
set_option maxRecDepth 100000
attribute [local go_sem] Oper.semAt_some
variable {w w' : World} {a : Ar} {t u : Th} {g : Nat} {s s' : St} {nx nx' : Nat → Int} {n m cnt : Nat} {H I H' : List Int} {L M L' : Nat → List Nat}
theorem step_off (hblk : w.heap[g]? = some (.cells #[(.pointer (some ⟨a.g, 0, none⟩)), (.pointer (some ⟨t.b, 0, none⟩)), .pointer none, .int .i64 0] 141 (0, 0))) :
    Calls Try.prog 51 #[(.pointer (some ⟨g, 0, none⟩))] w fun e w' => e = .returned (.bool false) ∧ Chg (fun _ => False) w w' := by
  have hb2 := (Chg.alloc (fun _ => False) w (.cells #[(.pointer (some ⟨g, 0, none⟩))] 82)).keep hblk id
  have c0 : (w.alloc (.cells #[(.pointer (some ⟨g, 0, none⟩))] 82)).cell? ⟨w.heap.size, 0, none⟩ = some (.pointer (some ⟨g, 0, none⟩)) := (Boxed.new w 82 (.pointer (some ⟨g, 0, none⟩))).cell
  have c2 : (w.alloc (.cells #[(.pointer (some ⟨g, 0, none⟩))] 82)).cell? ⟨g, 2, none⟩ = some (.pointer none) := by rw [blk_cell hb2]; rfl
  clear hblk hb2
  go_enter Try.func51, Try.ntmps51
  go_wp2_with fail
  go_ret
  exact ⟨rfl, Chg.alloc _ _ _⟩
/-- items laid into a table, one after another -/
def insAll (M : Nat → List Nat) (n : Nat) (l : List Nat) : Nat → List Nat := l.foldl (fun M x => insB M n x) M
theorem insAll_snoc (M : Nat → List Nat) (n : Nat) (l : List Nat) (x : Nat) : insAll M n (l ++ [x]) = insB (insAll M n l) n x := by
  unfold insAll
  rw [List.foldl_append]
  rfl
theorem chg_of_grown {A B : World} {row : Option Nat} (h : A.grownBy B row) : Chg (fun b => row = some b) A B := ⟨h.os, h.tape, h.output, h.size, fun b hb hn => h.block b hb fun e => hn e.symm⟩
/-- how a step ends: the bucket's items have gone over; or the table has grown -/
def StepEnd (w : World) (a : Ar) (t u : Th) (g n m : Nat) (L M : Nat → List Nat) (e : Ending) (w' : World) : Prop :=
  (∃ s' nx' H' I', (m + 1 < n ∧ e = .returned (.bool true) ∧ G2 w' a g t u s' nx' n (m + 1) H' (updL L m []) I' (insAll M (2 * n) (L m).reverse)) ∨ (m + 1 = n ∧ e = .returned (.bool false) ∧ G1 w' a g u s' nx' (2 * n) I' (insAll M (2 * n) (L m).reverse) ∧ ∀ b, b < n → updL L m [] b = [])) ∧ Chg (T4 a t u g) w w'
theorem chg_put (W : World) (D : Nat) (o : Obj) : Chg (fun b => some D = some b) W (W.putObj D o) := chg_of_grown (grownBy_putObj' W D o)
theorem chg_beyond {S R : Nat → Prop} {A B C : World} (h : Chg S A B) (k : Chg R B C) (hr : ∀ b, b < A.heap.size → ¬ R b) : Chg S A C :=
  ⟨k.os.trans h.os, k.tape.trans h.tape, k.output.trans h.output, Nat.le_trans h.size k.size, fun i hi hs => (k.block i (Nat.lt_of_lt_of_le hi h.size) (hr i hi)).trans (h.block i hi hs)⟩
theorem set3_chg (W : World) (g : Nat) (x y z : Value) : Chg (fun b => b = g) W (World.drew (((W.setCell ⟨g, 1, none⟩ x).setCell ⟨g, 2, none⟩ y).setCell ⟨g, 3, none⟩ z)) := by
  have q1 : Chg (fun b => b = g) W (W.setCell ⟨g, 1, none⟩ x) := Chg.setCell _ _ _ rfl
  generalize W.setCell ⟨g, 1, none⟩ x = W1 at q1 ⊢
  have q2 : Chg (fun b => b = g) W1 (W1.setCell ⟨g, 2, none⟩ y) := Chg.setCell _ _ _ rfl
  generalize W1.setCell ⟨g, 2, none⟩ y = W2 at q2 ⊢
  have q3 : Chg (fun b => b = g) W2 (W2.setCell ⟨g, 3, none⟩ z) := Chg.setCell _ _ _ rfl
  exact ((q1.trans q2).trans q3).trans (Chg.drew _ _)
/-- what the loop over a bucket's items keeps -/
structure StepI (W3 : World) (a : Ar) (t u : Th) (n m : Nat) (H2 : List Int) (L M : Nat → List Nat) (l : List Nat) (W : World) : Prop where
  chg : Chg (T2 a u) W3 W
  ex : ∃ s' nx' I', TL W a t s' nx' n H2 (updL L m []) ∧ TL W a u s' nx' (2 * n) I' (insAll M (2 * n) l)
  moved : ∀ b, b < 2 * n → ∀ x ∈ insAll M (2 * n) l b, hb n x ≤ m
theorem insB_mem {M : Nat → List Nat} {n x b y : Nat} (h : y ∈ insB M n x b) : y = x ∨ y ∈ M b := by
  unfold insB at h
  split at h
  · exact .inr h
  · unfold updL at h
    split at h
    · rename_i e
      subst e
      rcases List.mem_cons.1 h with h | h
      · exact .inl h
      · exact .inr h
    · exact .inr h
theorem StepI.insert {W3 W : World} {H2 : List Int} {l : List Nat} {x : Nat} (h : StepI W3 a t u n m H2 L M l W) (ap : Apart t u) (hx : x < 30) (hbx : hb n x = m) :
    Calls Try.prog 30 #[(.pointer (some ⟨u.b, 0, none⟩)), (.int .i64 (64 * (x : Int)))] W fun e W' => (∃ v, e = .returned (.int .i64 v)) ∧ StepI W3 a t u n m H2 L M (l ++ [x]) W' ∧ Chg (T2 a u) W W' := by
  obtain ⟨s', nx', I', h1, h2⟩ := h.ex
  refine (h2.insert hx).mono fun e W' ⟨he, s2, nx2, I2, h3, h4, hc⟩ => ⟨⟨_, he⟩, ⟨h.chg.trans hc, ⟨s2, nx2, I2, h1.other h3 hc ap.symm fun b hb y hy => h4 y fun e => ?_, by rw [insAll_snoc]; exact h3⟩, fun b hb y hy => ?_⟩, hc⟩
  · have e2 := (h1.ti.mem b hb y hy).2
    rw [e, hbx] at e2
    rw [← e2, updL_at] at hy
    simp at hy
  · rw [insAll_snoc] at hy
    rcases insB_mem hy with rfl | hy
    · omega
    · exact h.moved b hb y hy
theorem StepI.from {W3 A B : World} {H2 : List Int} {l : List Nat} {row : Option Nat} (h : StepI W3 a t u n m H2 L M l A) (hg : A.grownBy B row) (hB : ∀ x, T3 a t x ∨ T3 a u x → x < W3.heap.size) (hr : ∀ r, row = some r → W3.heap.size ≤ r) : StepI W3 a t u n m H2 L M l B := by
  obtain ⟨s', nx', I', h1, h2⟩ := h.ex
  have hc := chg_of_grown hg
  exact ⟨⟨hc.os.trans h.chg.os, hc.tape.trans h.chg.tape, hc.output.trans h.chg.output, Nat.le_trans h.chg.size hc.size, fun i hi hs => (hc.block i (Nat.lt_of_lt_of_le hi h.chg.size) fun e => by have := hr i e; omega).trans (h.chg.block i hi hs)⟩, ⟨s', nx', I', h1.skip hc fun x hx e => by have := hr x e; have := hB x (.inl hx); omega, h2.skip hc fun x hx e => by have := hr x e; have := hB x (.inr hx); omega⟩, h.moved⟩
theorem revs_map (lb : List Nat) : (revs (pls lb).length).map (fun i => lb.getD i.val 0) = lb.reverse := by
  have hl := pls_length lb
  refine List.ext_getElem (by rw [List.length_map, revs_len, List.length_reverse, hl]) fun i h1 h2 => ?_
  rw [List.length_reverse] at h2
  rw [List.getElem_map, revs_at (by rw [hl]; exact h2), List.getElem_reverse, List.getD_eq_getElem?_getD, List.getElem?_eq_getElem (by show (pls lb).length - 1 - i < lb.length; omega)]
  simp only [hl]
  rfl
set_option maxHeartbeats 2000000 in
theorem step_walk (k : G2 w a g t u s nx n m H L I M) : Calls Try.prog 51 #[(.pointer (some ⟨g, 0, none⟩))] w (StepEnd w a t u g n m L M) := by
  have CA := Chg.alloc (fun _ => False) w (.cells #[(.pointer (some ⟨g, 0, none⟩))] 82)
  have kA := k.fresh CA
  have c0 : (w.alloc (.cells #[(.pointer (some ⟨g, 0, none⟩))] 82)).cell? ⟨w.heap.size, 0, none⟩ = some (.pointer (some ⟨g, 0, none⟩)) := (Boxed.new w 82 (.pointer (some ⟨g, 0, none⟩))).cell
  have c1 : (w.alloc (.cells #[(.pointer (some ⟨g, 0, none⟩))] 82)).cell? ⟨g, 1, none⟩ = some (.pointer (some ⟨t.b, 0, none⟩)) := by rw [blk_cell kA.blk]; rfl
  have c2 : (w.alloc (.cells #[(.pointer (some ⟨g, 0, none⟩))] 82)).cell? ⟨g, 2, none⟩ = some (.pointer (some ⟨u.b, 0, none⟩)) := by rw [blk_cell kA.blk]; rfl
  have c3 : (w.alloc (.cells #[(.pointer (some ⟨g, 0, none⟩))] 82)).cell? ⟨g, 3, none⟩ = some (.int .i64 m) := by rw [blk_cell kA.blk]; rfl
  have EM := Lib.hid (fun W (h : Chg (fun _ => False) (w.alloc (.cells #[(.pointer (some ⟨g, 0, none⟩))] 82)) W) => empty_in (kA.fresh h).tl kA.lt)
  have KA := Lib.hid kA
  have B0 : Hid (Boxed (w.alloc (.cells #[(.pointer (some ⟨g, 0, none⟩))] 82)) w.heap.size 82 (.pointer (some ⟨g, 0, none⟩))) := Boxed.new w 82 (.pointer (some ⟨g, 0, none⟩))
  have GG : Hid (∀ x, T3 a t x ∨ T3 a u x ∨ x = g → x < w.heap.size) := fun x hx => by
    rcases hx with hx | hx | rfl
    · exact t3_low k.tl x hx
    · exact t3_low k.ul x hx
    · exact blk_lt k.blk
  have CA := Lib.hid CA
  clear k kA
  refine (callsIn_wide (n := 3)).1 ?_
  refine callsIn_of_wp_marks Try.func51 rfl trivial ?_ rfl
  simp only [Try.ntmps51, List.size_toArray, List.length_cons, List.length_nil, Nat.reduceAdd, Nat.reduceSub, Array.replicate_succ, Array.replicate_zero, List.push_toArray, List.append_toArray, List.nil_append, List.cons_append]
  refine wpIn_wide.2 ?_
  go_wp2_with fail
  generalize w.alloc (.cells #[(.pointer (some ⟨g, 0, none⟩))] 82) = w1 at CA c0 c1 c2 c3 EM KA B0 ⊢
  generalize hG : w.heap.size = G0 at c0 B0 GG ⊢
  have NG : Hid (¬ T2 a t G0 ∧ ¬ T2 a t g ∧ ¬ T2 a u G0 ∧ ¬ T2 a u g ∧ g ≠ G0) := ⟨fun h => by have := GG.out _ (.inl (.inr (.inr h))); omega, fun h => KA.out.off (.inr (.inr h)), fun h => by have := GG.out _ (.inr (.inl (.inr (.inr h)))); omega, fun h => KA.out.ofu (.inr (.inr h)), fun e => by have := GG.out g (.inr (.inr rfl)); omega⟩
  have d0 : (World.drew w1).cell? ⟨G0, 0, none⟩ = some (.pointer (some ⟨g, 0, none⟩)) := c0
  have d1 : (World.drew w1).cell? ⟨g, 1, none⟩ = some (.pointer (some ⟨t.b, 0, none⟩)) := c1
  have d3 : (World.drew w1).cell? ⟨g, 3, none⟩ = some (.int .i64 m) := c3
  have d2 : (World.drew w1).cell? ⟨g, 2, none⟩ = some (.pointer (some ⟨u.b, 0, none⟩)) := c2
  go_region_held3 (fun w' => w'.cell? ⟨G0, 0, none⟩ = some (.pointer (some ⟨g, 0, none⟩)) ∧ w'.cell? ⟨g, 1, none⟩ = some (.pointer (some ⟨t.b, 0, none⟩)) ∧ w'.cell? ⟨g, 3, none⟩ = some (.int .i64 m)) (go_keep)
    (first | (go_at_call 35; refine (EM.out _ (Chg.drew _ w1)).mono ?_; rintro e w2 ⟨A, c, s2, rfl, ho, h3, hc⟩; have T2' := Lib.hid h3; have O2 := Lib.hid ho; have C2 := Lib.hid ((Chg.drew _ w1).trans hc); have f0 : w2.cell? ⟨G0, 0, none⟩ = some (.pointer (some ⟨g, 0, none⟩)) := hc.cell d0 NG.out.1; have f1 : w2.cell? ⟨g, 1, none⟩ = some (.pointer (some ⟨t.b, 0, none⟩)) := hc.cell d1 NG.out.2.1; have f3 : w2.cell? ⟨g, 3, none⟩ = some (.int .i64 m) := hc.cell d3 NG.out.2.1; clear h3 ho hc; skip))
  clear d0 d1 d2 d3 c0 c1 c2 c3 f1 f3 EM
  go_wp2_with fail
  refine (back_calls A (L m).length c w2).mono ?_
  rintro e w3 ⟨rfl, rfl⟩
  go_wp2_with fail
  have hbm : m < 2 * n := by have := KA.out.lt; omega
  have HBm : Hid (∀ y ∈ L m, y < 30 ∧ hb n y = m) := fun y hy => KA.out.tl.ti.mem m KA.out.lt y hy
  have U2 := Lib.hid (KA.out.ul.other T2'.out C2.out KA.out.ap fun b hb y hy => by
    show (if y ∈ L m then _ else _) = _
    rw [if_neg fun h => by have := KA.out.moved b hb y hy; have := (HBm.out y h).2; omega])
  have CB : Hid (Chg (fun _ => False) w2 (w2.alloc (.cells #[.slice A (L m).length c] 27))) := Chg.alloc _ _ _
  have bB := Boxed.new w2 27 (.slice A (L m).length c)
  have I0 : Hid (StepI (w2.alloc (.cells #[.slice A (L m).length c] 27)) a t u n m (H.set m (-1)) L M [] (w2.alloc (.cells #[.slice A (L m).length c] 27))) :=
    ⟨Chg.refl _ _, ⟨s2, _, I, T2'.out.fresh CB.out, U2.out.fresh CB.out⟩, fun b hb y hy => Nat.le_of_lt (KA.out.moved b hb y hy)⟩
  obtain ⟨sb, hsb, hsb2, hsb3⟩ : ∃ sb, (∀ ad, A = some ad → ad.block = sb) ∧ G0 ≤ sb ∧ sb < w2.heap.size + 1 := by
    cases hA : A with
    | none => exact ⟨w2.heap.size, (fun ad e => by cases e), (by have := CA.out.size; have := C2.out.size; omega), Nat.lt_succ_self _⟩
    | some ad =>
      subst hA
      have h1 := World.ownsRow.lt O2.out ad.block rfl
      exact ⟨ad.block, (fun ad' e => by cases e; rfl), by have := CA.out.size; have := h1.1; have e : (World.drew w1).heap.size = w1.heap.size := rfl; omega, by have := h1.2; omega⟩
  have sl2 : Sl (w2.alloc (.cells #[.slice A (L m).length c] 27)) .i64 A (pls (L m)) := (show Sl w2 .i64 A (pls (L m)) from O2.out.sl).chg CB.out fun _ _ => id
  have hl30 : (pls (L m)).length ≤ 1000000 := by
    rw [pls_length]
    have := nodup_len 30 (L m) (KA.out.tl.ti.nodup m KA.out.lt) fun y hy => (HBm.out y hy).1
    omega
  have hst := back_stops (pls (L m)) hl30 2 w2.heap.size sb (by decide) A c (w2.alloc (.cells #[.slice A (L m).length c] 27)) (by simp) (by simp; omega) (by rw [pls_length]; exact bB.cell) sl2 hsb
  have GB : Hid (∀ x, T3 a t x ∨ T3 a u x → x < G0) := fun x hx => GG.out x (by rcases hx with h | h; exact .inl h; exact .inr (.inl h))
  have W3 : Hid ((w2.alloc (.cells #[.slice A (L m).length c] 27)).heap.size = w2.heap.size + 1 ∧ G0 < w2.heap.size) := ⟨World.size_alloc _ _, by have := CA.out.size; have := C2.out.size; have := blk_lt B0.out; omega⟩
  have f0' : Hid ((w2.alloc (.cells #[.slice A (L m).length c] 27)).cell? ⟨G0, 0, none⟩ = some (.pointer (some ⟨g, 0, none⟩))) := CB.out.cell f0 id
  have gblk : Hid ((w2.alloc (.cells #[.slice A (L m).length c] 27)).heap[g]? = some (.cells #[(.pointer (some ⟨a.g, 0, none⟩)), (.pointer (some ⟨t.b, 0, none⟩)), (.pointer (some ⟨u.b, 0, none⟩)), .int .i64 m] 141 (0, 0))) := CB.out.keep (C2.out.keep KA.out.blk NG.out.2.1) id
  refine (wpIn_wide (n := 3)).1 ?_
  refine wpIn_rangeFunc_ownG rfl (by decide) (gf := 111) (lb := #[.pointer (some ⟨w2.heap.size, 0, none⟩)]) rfl trivial (enters_of Try.func111 (by kernel_rfl) rfl) hst
    (fun h k => h.trans k) (fun W l o o' hl h1 h2 h3 => ⟨World.putObj_heap_other (by rw [W3.out.1] at hl; omega), World.putObj_heap_other (by rw [W3.out.1] at hl; omega)⟩) (Below.refl _ _) (fun _ => rfl)
    (fun (pre : List (Fin (pls (L m)).length)) W => StepI (w2.alloc (.cells #[.slice A (L m).length c] 27)) a t u n m (H.set m (-1)) L M (pre.map fun (i : Fin (pls (L m)).length) => (L m).getD i.val 0) W)
    (fun _ _ _ => False)
    (fun s A B row hs hg hr => hs.from hg (fun x hx => by have := GB.out x hx; have := W3.out; omega) fun r e => (hr r e).1)
    (fun _ _ _ _ _ hs _ _ => hs)
    I0.out
    (fun x => { tmps := #[(.pointer (some ⟨g, 0, none⟩)), (.pointer (some ⟨G0, 0, none⟩)), .bool false, .slice A (L m).length c, (.int .i64 0), undef, .int .i64 ((pls (L m)).getD x.val 0), undef, undef, (.pointer (some ⟨g, 0, none⟩)), (.pointer (some ⟨g, 0, none⟩)), .pointer (some ⟨g, 2, none⟩), (.pointer (some ⟨u.b, 0, none⟩)), .bool false, .tuple #[.slice A (L m).length c, (.int .i64 0)], (.pointer (some ⟨g, 0, none⟩)), (.pointer (some ⟨g, 0, none⟩)), .pointer (some ⟨g, 1, none⟩), (.pointer (some ⟨t.b, 0, none⟩)), (.pointer (some ⟨g, 0, none⟩)), (.pointer (some ⟨g, 0, none⟩)), .pointer (some ⟨g, 3, none⟩), .int .i64 m, .tuple #[.slice A (L m).length c, (.int .i64 0)], .slice A (L m).length c, (.int .i64 0), .slice A (L m).length c, .func (.func 111) #[] #[.pointer (some ⟨w2.heap.size, 0, none⟩)], .int .i64 (x.val : Int), .int .i64 ((pls (L m)).getD x.val 0), undef, undef, undef, undef, undef, undef, undef, undef, undef, undef, undef, undef, undef, undef, undef, undef, undef, undef, undef, undef, undef, undef, undef, undef, undef, undef, undef, undef, undef, undef, undef, undef, undef, undef, undef, undef, undef, undef, undef, undef], defers := [] }) ?assign ?body ?done ?stop
  case assign =>
    intro l x W K hK
    unfold bv
    generalize (pls (L m)).getD x.val 0 = y at hK ⊢
    gi_wp2
    exact hK
  case body =>
    rintro l pre x W hI hlt
    have c0 := hI.chg.cell f0'.out (fun h => by rcases h with h | h | h
                                                · exact NG.out.2.2.1 (.inl h)
                                                · exact NG.out.2.2.1 (.inr (.inl h))
                                                · exact NG.out.2.2.1 (.inr (.inr h)))
    have gb := hI.chg.keep gblk.out NG.out.2.2.2.1
    have c2 : W.cell? ⟨g, 2, none⟩ = some (.pointer (some ⟨u.b, 0, none⟩)) := by rw [blk_cell gb]; rfl
    have x1 := x.isLt
    have x2 : x.val < (L m).length := by have := pls_length (L m); omega
    have xm : (L m).getD x.val 0 ∈ L m := getD_in2 (L m) x2
    have IN := hI.insert KA.out.ap (HBm.out _ xm).1 (HBm.out _ xm).2
    rw [show pre.map (fun (i : Fin (pls (L m)).length) => (L m).getD i.val 0) ++ [(L m).getD x.val 0] = (pre ++ [x]).map (fun (i : Fin (pls (L m)).length) => (L m).getD i.val 0) by rw [List.map_append]; rfl] at IN
    have xv : (pls (L m)).getD x.val 0 = 64 * (((L m).getD x.val 0 : Nat) : Int) := pls_getD _ x2
    rw [xv]
    generalize (L m).getD x.val 0 = y at IN
    have A2 := Lib.hid (((callsIn_wide (n := 0)).2 IN).inRound l)
    have HS : Hid (w2.heap.size + 1 ≤ W.heap.size) := by have := hI.chg.size; rw [W3.out.1] at this; exact this
    have ZB : Hid (∀ b, T2 a u b → b < G0) := fun b h => GB.out b (.inr (.inr (.inr h)))
    clear IN xv xm x2 x1 gb hI hst bB sl2 hlt
    gi_wp2_with fail
    refine ⟨trivial, ?_⟩
    refine A2.out.mono ?_
    rintro e w8 ⟨⟨v, rfl⟩, hJ, hc⟩
    replace hJ := Lib.hid hJ
    replace hc := Lib.hid hc
    clear A2 c0 c2
    gi_wp2_with fail
    have W31 := W3.out
    exact ⟨⟨hc.out.size, fun k o hk h1 _ => (hc.out.block k (Array.getElem?_eq_some_iff.1 h1).1 fun h => by have := ZB.out k h; omega).trans h1⟩, ⟨hc.out.block _ (by have := HS.out; omega) fun h => by have := ZB.out _ h; omega, hc.out.block _ (by have := HS.out; omega) fun h => by have := ZB.out _ h; omega⟩, hJ.out⟩
  case done =>
    rintro D ys W hD rfl hI hK
    have c0 := hI.chg.cell f0'.out (fun h => by rcases h with h | h | h
                                                · exact NG.out.2.2.1 (.inl h)
                                                · exact NG.out.2.2.1 (.inr (.inl h))
                                                · exact NG.out.2.2.1 (.inr (.inr h)))
    have gb := hI.chg.keep gblk.out NG.out.2.2.2.1
    have c1 : W.cell? ⟨g, 1, none⟩ = some (.pointer (some ⟨t.b, 0, none⟩)) := by rw [blk_cell gb]; rfl
    have c3 : W.cell? ⟨g, 3, none⟩ = some (.int .i64 m) := by rw [blk_cell gb]; rfl
    have z3 := blk_frozen gb 3
    rw [revs_map] at hI
    have HI := Lib.hid hI
    have HK := Lib.hid hK
    have GBW := Lib.hid gb
    have mr := KA.out.tl.ti.pow.range
    have ml := KA.out.lt
    have ws : wrap64 ((m : Int) + 1) = (m : Int) + 1 := by unfold wrap64; omega
    have gG : g < G0 := by have := GG.out g (.inr (.inr rfl)); have := NG.out.2.2.2.2; omega
    have CS : Chg (fun x => x = g) W (W.setCell ⟨g, 3, none⟩ (.int .i64 ((m : Int) + 1))) := Chg.setCell _ _ _ rfl
    have gb1 := gset3 (v := .int .i64 ((m : Int) + 1)) gb
    obtain ⟨s', nx', I', t1, u1⟩ := HI.out.ex
    have TW := t1.skip CS fun x hx e => KA.out.off (e ▸ hx)
    have UW := u1.skip CS fun x hx e => KA.out.ofu (e ▸ hx)
    have W31 := W3.out
    have HD : Hid ((W.setCell ⟨g, 3, none⟩ (.int .i64 ((m : Int) + 1))).heap[D]? = some (.deferred (some []))) := by
      show _ = _
      rw [Below.heap_setCell _ ⟨g, 3, none⟩ _ D (by show D ≠ g; omega)]
      exact hK
    have e0 : (W.setCell ⟨g, 3, none⟩ (.int .i64 ((m : Int) + 1))).cell? ⟨G0, 0, none⟩ = some (.pointer (some ⟨g, 0, none⟩)) := CS.cell c0 fun e => NG.out.2.2.2.2 e.symm
    have DG : Hid (D ≠ g ∧ D ≠ G0 ∧ (∀ x, T3 a t x ∨ T3 a u x → x ≠ D) ∧ w2.heap.size + 1 ≤ D) := ⟨by omega, by omega, fun x hx => by have := GB.out x hx; omega, by omega⟩
    have SZ := Lib.hid (size_calls TW.tm)
    have CW : Hid (Chg (T4 a t u g) w1 (W.setCell ⟨g, 3, none⟩ (.int .i64 ((m : Int) + 1)))) := (((C2.out.mono fun _ _ h => .inl h).trans (CB.out.mono fun _ _ h => h.elim)).trans (HI.out.chg.mono fun _ _ h => .inr (.inl h))).trans (CS.mono fun _ _ h => .inr (.inr h))
    have MV := Lib.hid HI.out.moved
    replace TW := Lib.hid TW
    replace UW := Lib.hid UW
    clear hI hK gb hst bB sl2 CS t1 u1 mr HI HK GBW W31 gG
    gi_wp2
    go_wp2_with fail
    generalize W.setCell ⟨g, 3, none⟩ (.int .i64 ((m : Int) + 1)) = W4 at gb1 TW UW HD e0 SZ CW ⊢
    clear c0 c1 c3 z3
    refine SZ.out.mono ?_
    rintro e W5 ⟨rfl, hd⟩
    have C5 := hd.chg (fun _ => False)
    have gb5 := C5.keep gb1 id
    have c0 : W5.cell? ⟨G0, 0, none⟩ = some (.pointer (some ⟨g, 0, none⟩)) := C5.cell e0 id
    have c3 : W5.cell? ⟨g, 3, none⟩ = some (.int .i64 ((m : Int) + 1)) := by rw [blk_cell gb5]; rfl
    have T5 := Lib.hid (TW.out.fresh C5)
    have U5 := Lib.hid (UW.out.fresh C5)
    have HD5 : Hid (W5.heap[D]? = some (.deferred (some []))) := (C5.block D (Array.getElem?_eq_some_iff.1 HD.out).1 id).trans HD.out
    have CW5 : Hid (Chg (T4 a t u g) w1 W5) := CW.out.trans (C5.mono fun _ _ h => h.elim)
    replace hd := Lib.hid hd
    clear C5 SZ e0 gb1 HD TW UW CW
    by_cases h1 : m + 1 < n
    · have h1' : (m : Int) + 1 < n := by omega
      replace gb5 := Lib.hid gb5
      go_wp2_with fail
      refine ⟨by simp, .inl ⟨_, _, rfl, run_takeDeferred HD5.out, ?_⟩⟩
      have CP := chg_put W5 D (.deferred none)
      have z1 : w.heap.size ≤ D := by have := CA.out.size; have := C2.out.size; have := DG.out.2.2.2; omega
      have GL : ∀ b, b < m + 1 → updL L m [] b = [] := fun b hb => by
        by_cases e : b = m
        · rw [e, updL_at]
        · rw [updL_ne _ _ e]; exact KA.out.gone b (by omega)
      exact ⟨_, results_tmp rfl _ _ _, ⟨s', nx', _, I', .inl ⟨h1, rfl, ⟨T5.out.skip CP fun x hx e => DG.out.2.2.1 x (.inl hx) (Option.some.inj e).symm, U5.out.skip CP fun x hx e => DG.out.2.2.1 x (.inr hx) (Option.some.inj e).symm, KA.out.ap, CP.keep gb5.out fun e => DG.out.1 (Option.some.inj e), KA.out.off, KA.out.ofu, h1, GL, fun b hb y hy => Nat.lt_succ_of_le (MV.out b hb y hy)⟩⟩⟩,
        chg_beyond ((CA.out.mono fun _ _ h => h.elim).trans CW5.out) CP fun b hb e => by have := Option.some.inj e; omega⟩
    · have h1' : ¬ (m : Int) + 1 < n := by omega
      have c2 : W5.cell? ⟨g, 2, none⟩ = some (.pointer (some ⟨u.b, 0, none⟩)) := by rw [blk_cell gb5]; rfl
      have c1 : W5.cell? ⟨g, 1, none⟩ = some (.pointer (some ⟨t.b, 0, none⟩)) := by rw [blk_cell gb5]; rfl
      have e1 : m + 1 = n := by omega
      have z1 := blk_frozen gb5 1
      have z2 := blk_frozen gb5 2
      have z3 := blk_frozen gb5 3
      have gbH := Lib.hid gb5
      clear gb5
      go_wp2_with fail
      go_region
      have CS1 : Chg (fun x => x = g) W5 (World.drew (((W5.setCell ⟨g, 1, none⟩ (.pointer (some ⟨u.b, 0, none⟩))).setCell ⟨g, 2, none⟩ (.pointer none)).setCell ⟨g, 3, none⟩ (.int .i64 0))) := set3_chg W5 g _ _ _
      have gb6 : (World.drew (((W5.setCell ⟨g, 1, none⟩ (.pointer (some ⟨u.b, 0, none⟩))).setCell ⟨g, 2, none⟩ (.pointer none)).setCell ⟨g, 3, none⟩ (.int .i64 0))).heap[g]? = some (.cells #[(.pointer (some ⟨a.g, 0, none⟩)), (.pointer (some ⟨u.b, 0, none⟩)), .pointer none, .int .i64 0] 141 (0, 0)) := gset3 (gset2 (gset1 gbH.out))
      have HD6 := (CS1.block D (Array.getElem?_eq_some_iff.1 HD5.out).1 DG.out.1).trans HD5.out
      replace CS1 := Lib.hid CS1
      replace gb6 := Lib.hid gb6
      replace HD6 := Lib.hid HD6
      clear c0 c1 c2 c3 z1 z2 z3
      generalize World.drew (((W5.setCell ⟨g, 1, none⟩ (.pointer (some ⟨u.b, 0, none⟩))).setCell ⟨g, 2, none⟩ (.pointer none)).setCell ⟨g, 3, none⟩ (.int .i64 0)) = W6 at CS1 gb6 HD6 ⊢
      go_wp2_with fail
      refine ⟨by simp, .inl ⟨_, _, rfl, run_takeDeferred HD6.out, ?_⟩⟩
      have CP := chg_put W6 D (.deferred none)
      have z1 : w.heap.size ≤ D := by have := CA.out.size; have := C2.out.size; have := DG.out.2.2.2; omega
      have GL : ∀ b, b < n → updL L m [] b = [] := fun b hb => by
        by_cases e : b = m
        · rw [e, updL_at]
        · rw [updL_ne _ _ e]; exact KA.out.gone b (by omega)
      exact ⟨_, results_tmp rfl _ _ _, ⟨s', nx', H, I', .inr ⟨e1, rfl, ⟨(U5.out.skip CS1.out fun x hx e => KA.out.ofu (e ▸ hx)).skip CP fun x hx e => DG.out.2.2.1 x (.inr hx) (Option.some.inj e).symm, CP.keep gb6.out fun e => DG.out.1 (Option.some.inj e), KA.out.ofu⟩, GL⟩⟩,
        chg_beyond (((CA.out.mono fun _ _ h => h.elim).trans CW5.out).trans (CS1.out.mono fun _ _ h => .inr (.inr h))) CP fun b hb e => by have := Option.some.inj e; omega⟩
  case stop =>
    rintro D c pre W _ _ h _
    exact h.elim
end Go.Proofs.Ytolpjgpimholcaa.Grow

