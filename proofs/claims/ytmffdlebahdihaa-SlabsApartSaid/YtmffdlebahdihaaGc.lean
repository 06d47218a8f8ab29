import Derived.Test.YtmffdlebahdihaaGb
import Derived.OpenShut
import Derived.Lib.SlBytesConst
import Derived.Test.YtmffdlebahdihaaGa
import Derived.Deep.Slices
import Derived.ChangeSlices
import Derived.Deep.DeepCutAuto
import Derived.Deep.LoopGhost
import Derived.Deep.RegionHeld3
import Derived.BigQuiet
import Derived.Deep.QuietTactic
/- An arena of the call's own, as its functions leave it; and the walk of chapter 05's works. -/
namespace Go.Proofs.Ytmffdlebahdihaa.Arena
open Go Go.RowKit Go.Proofs.Ytmffdlebahdihaa.Mem Go.Proofs.Ytmffdlebahdihaa.CodecPure Go.Proofs.Ytmffdlebahdihaa.ArenaPure Go.Proofs.Ytmffdlebahdihaa.Codec
set_option linter.unusedVariables false
set_option maxRecDepth 100000
/-- the arena a lies in blocks from B on, as s says; nothing else that was there at w0 has turned, below B -/
structure Here (B : Nat) (w0 w : World) (a : Ar) (s : St) : Prop where
  lies : Lies w a s
  chg : Chg (fun b => B ≤ b) w0 w
  low : B ≤ a.g ∧ B ≤ a.ps ∧ ∀ b ∈ a.pb, B ≤ b
variable {B : Nat} {w0 w w' : World} {a : Ar} {s s' : St}
theorem Here.now (h : Here B w0 w a s) (hl : Lies w' a s') (hc : Chg (· ∈ a.pb) w w') : Here B w0 w' a s' :=
  ⟨hl, h.chg.trans (hc.mono fun b _ hb => h.low.2.2 b hb), h.low⟩
theorem Here.fresh (h : Here B w0 w a s) (hc : Chg (fun _ => False) w w') : Here B w0 w' a s :=
  ⟨h.lies.chg hc id id fun _ _ => id, h.chg.trans (hc.mono fun _ _ h => h.elim), h.low⟩
theorem Here.alloc (h : Here B w0 w a s) (o : Obj) : Here B w0 (w.alloc o) a s := h.fresh (Chg.alloc _ _ _)
theorem Here.below (h : Here B w0 w a s) (hB : B ≤ w0.heap.size) : Below B w0 w := h.chg.below hB fun _ h => h
theorem Here.grant (h : Here B w0 w a s) (c : Int) : Calls Try.prog 52 #[(.pointer (some ⟨a.g, 0, none⟩)), (.int .i64 c)] w fun e w' => e = .returned (.tuple #[.int .i64 (grant s c).2.1, .int .i64 (grant s c).2.2]) ∧ Here B w0 w' a (grant s c).1 :=
  (grant_calls h.lies c).mono fun _ _ ⟨e, h1, h2⟩ => ⟨e, h.now h1 h2⟩
theorem Here.ret (h : Here B w0 w a s) (n : Int) : Calls Try.prog 50 #[(.pointer (some ⟨a.g, 0, none⟩)), (.int .i64 n)] w fun e w' => e = .returned (.int .i64 (ret s n).2) ∧ Here B w0 w' a (ret s n).1 :=
  (return_calls h.lies n).mono fun _ _ ⟨e, h1, h2⟩ => ⟨e, h.now h1 h2⟩
theorem Here.write (h : Here B w0 w a s) (at_ : Int) (A : Option Addr) (c : Nat) (l : List Int) (hs : Sl w .u8 A l) (hb : Bytes l) (hm : l.length ≤ 1000000000) (hx : -9223372036854775808 ≤ at_ ∧ at_ ≤ 9223372036854775807) :
    Calls Try.prog 22 #[(.pointer (some ⟨a.g, 0, none⟩)), (.int .i64 at_), .slice A l.length c] w fun e w' => e = .returned (.int .i64 (write s at_ l).2) ∧ Here B w0 w' a (write s at_ l).1 :=
  (write_calls h.lies at_ A c l hs hb hm hx).mono fun _ _ ⟨e, h1, h2⟩ => ⟨e, h.now h1 h2⟩
theorem Here.grantC (h : Here B w0 w a s) (c : Int) : Calls Try.prog 52 #[(.pointer (some ⟨a.g, 0, none⟩)), (.int .i64 c)] w fun e w' => e = .returned (.tuple #[.int .i64 (ArenaPure.grant s c).2.1, .int .i64 (ArenaPure.grant s c).2.2]) ∧ Here B w0 w' a (ArenaPure.grant s c).1 ∧ Chg (· ∈ a.pb) w w' :=
  (grant_calls h.lies c).mono fun _ _ ⟨e, h1, h2⟩ => ⟨e, h.now h1 h2, h2⟩
theorem Here.retC (h : Here B w0 w a s) (n : Int) : Calls Try.prog 50 #[(.pointer (some ⟨a.g, 0, none⟩)), (.int .i64 n)] w fun e w' => e = .returned (.int .i64 (ArenaPure.ret s n).2) ∧ Here B w0 w' a (ArenaPure.ret s n).1 ∧ Chg (· ∈ a.pb) w w' :=
  (return_calls h.lies n).mono fun _ _ ⟨e, h1, h2⟩ => ⟨e, h.now h1 h2, h2⟩
theorem Here.writeC (h : Here B w0 w a s) (at_ : Int) (A : Option Addr) (c : Nat) (l : List Int) (hs : Sl w .u8 A l) (hb : Bytes l) (hm : l.length ≤ 1000000000) (hx : -9223372036854775808 ≤ at_ ∧ at_ ≤ 9223372036854775807) :
    Calls Try.prog 22 #[(.pointer (some ⟨a.g, 0, none⟩)), (.int .i64 at_), .slice A l.length c] w fun e w' => e = .returned (.int .i64 (ArenaPure.write s at_ l).2) ∧ Here B w0 w' a (ArenaPure.write s at_ l).1 ∧ Chg (· ∈ a.pb) w w' :=
  (write_calls h.lies at_ A c l hs hb hm hx).mono fun _ _ ⟨e, h1, h2⟩ => ⟨e, h.now h1 h2, h2⟩
theorem Here.readC (h : Here B w0 w a s) (at_ n : Int) (hx : -9223372036854775808 ≤ at_ ∧ at_ ≤ 9223372036854775807) :
    Calls Try.prog 23 #[(.pointer (some ⟨a.g, 0, none⟩)), (.int .i64 at_), (.int .i64 n)] w fun e w' => ∃ A c, e = .returned (.tuple #[.slice A (readA s at_ n).1.length c, .int .i64 (readA s at_ n).2]) ∧ Own w' w.heap.size 5 .u8 (.slice A (readA s at_ n).1.length c) (readA s at_ n).1 ∧ Here B w0 w' a s ∧ Chg (fun _ => False) w w' :=
  (read_calls h.lies at_ n hx).mono fun _ _ ⟨A, c, e, h1, h2⟩ => ⟨A, c, e, h1, h.fresh h2, h2⟩
theorem Here.pb_lt (h : Here B w0 w a s) : ∀ b ∈ a.pb, b < w.heap.size := fun b hb => by
  obtain ⟨i, hi, e⟩ := h.lies.of_mem hb
  rw [← e]
  exact blk_lt (h.lies.page i hi)
theorem Own.other {w w' : World} {base : Nat} {e : TypeId} {k : IntKind} {v : Value} {l : List Int} (h : Own w base e k v l) (hp : ∀ b ∈ a.pb, b < base) (hc : Chg (· ∈ a.pb) w w') : Own w' base e k v l :=
  Own.chg h hc fun g e hb => by
    have := (World.ownsRow.lt h g e).1
    have := hp g hb
    omega
/-- two answers: bytes of the call's own, and an error -/
def RdH (B : Nat) (w0 w : World) (a : Ar) (s : St) (l : List Int) (err : Int) (e : Ending) (w' : World) : Prop :=
  ∃ A c, e = .returned (.tuple #[.slice A l.length c, .int .i64 err]) ∧ Own w' w.heap.size 5 .u8 (.slice A l.length c) l ∧ Here B w0 w' a s
theorem Here.read (h : Here B w0 w a s) (at_ n : Int) (hx : -9223372036854775808 ≤ at_ ∧ at_ ≤ 9223372036854775807) :
    Calls Try.prog 23 #[(.pointer (some ⟨a.g, 0, none⟩)), (.int .i64 at_), (.int .i64 n)] w (RdH B w0 w a s (readA s at_ n).1 (readA s at_ n).2) :=
  (read_calls h.lies at_ n hx).mono fun _ _ ⟨A, c, e, h1, h2⟩ => ⟨A, c, e, h1, h.fresh h2⟩
theorem Here.new (w : World) (n : Int) (h1 : 1 ≤ n) (h2 : n ≤ 32) : Calls Try.prog 41 #[(.int .i64 n)] w fun e w' => ∃ a : Ar, e = .returned (.tuple #[.pointer (some ⟨a.g, 0, none⟩), .int .i64 0]) ∧ Here w.heap.size w w' a (new n.toNat) :=
  (new_calls n w).mono fun e w' h => by
    rcases h with ⟨h, _⟩ | ⟨_, _, a, e1, hl, hc, h3, h4, h5, _⟩
    · omega
    · exact ⟨a, e1, hl, hc.mono fun _ _ h => h.elim, h3, h4, h5⟩
theorem sl_lit (w : World) (k : IntKind) (l : List Int) (e : TypeId) (fr : Nat × Nat) : Sl (w.alloc (.cells (nums k l).toArray e fr)) k (some ⟨w.heap.size, 0, none⟩) l := fun i hi => by
  refine ⟨_, rfl, ?_⟩
  rw [add_plain, blk_cell (heap_alloc_at w _), Nat.zero_add, List.getElem?_toArray]
  exact nums_get k l i hi
/-! ### works -/
def S0 : St := new 2
def S1 : St := (grant S0 3).1
def S2 : St := (grant S1 3).1
def S3 : St := (write S2 5 [97, 98, 99]).1
def S4 : St := (ArenaPure.ret S3 0).1
def S5 : St := (grant S4 1).1
theorem g1 : grant S0 3 = (S1, 0, 0) := Prod.ext rfl (by decide +kernel)
theorem g2 : grant S1 3 = (S2, 1, 0) := Prod.ext rfl (by decide +kernel)
theorem g3 : grant S2 0 = (S2, 0, 2) := Prod.ext (by unfold grant; rw [if_neg (by decide), if_neg (by decide +kernel)]) (by decide +kernel)
theorem g4 : write S2 5 [97, 98, 99] = (S3, 0) := Prod.ext rfl (by decide +kernel)
theorem g5 : ArenaPure.ret S3 0 = (S4, 0) := Prod.ext rfl (by decide +kernel)
theorem g6 : readA S4 0 1 = ([], 1) := by decide +kernel
theorem g7 : grant S4 1 = (S5, 0, 0) := Prod.ext rfl (by decide +kernel)
theorem g8 : readA S5 4 5 = ([0, 0, 0, 0, 0], 0) := by decide +kernel
theorem g9 : ArenaPure.ret S5 2 = (S5, 1) := by unfold ArenaPure.ret; rw [if_pos (by decide +kernel)]
end Go.Proofs.Ytmffdlebahdihaa.Arena

/- The walk of the law ArenaEnds: it returns true at any page and any number. -/
namespace Go.Proofs.Ytmffdlebahdihaa.Arena
open Go Go.RowKit Go.Proofs.Ytmffdlebahdihaa.Mem Go.Proofs.Ytmffdlebahdihaa.CodecPure Go.Proofs.Ytmffdlebahdihaa.ArenaPure Go.Proofs.Ytmffdlebahdihaa.Codec
set_option linter.unusedVariables false
set_option maxRecDepth 100000
def E (k : Nat) : St := match k with
  | 0 => new 4
  | k + 1 => (grant (E k) (k : Int)).1
theorem E3_own : (E 3).own = [0, 1, 2, -1] := by decide +kernel
/-- a number made small by a uint64's rest -/
theorem small (x : Int) (m : Nat) (h0 : 0 < m) : ∃ p : Nat, p < m ∧ (IntKind.u64.wrap x).tmod m = p ∧ IntKind.u64.wrap x % m = p := by
  have h := Int.emod_nonneg (IntKind.u64.wrap x) (show (m : Int) ≠ 0 by omega)
  have h2 := Int.emod_lt_of_pos (IntKind.u64.wrap x) (show (0 : Int) < m by omega)
  obtain ⟨p, e⟩ := Int.eq_ofNat_of_zero_le h
  have u : 0 ≤ IntKind.u64.wrap x := by rw [u64_wrap]; omega
  exact ⟨p, by omega, by rw [Int.tmod_eq_emod_of_nonneg u]; exact e, e⟩
theorem E_within (p m : Nat) (x : Int) (hp : p < 3) (h1 : 1 ≤ m) (h2 : m ≤ 1024) : within (E 3) (1024 * ((p : Int) + 1) - m) x ↔ 0 ≤ x ∧ x ≤ m := by
  unfold within
  rw [E3_own]
  have e1 : (((1024 : Int) * ((p : Int) + 1) - m) / 1024).toNat = p := by omega
  have e2 : ((1024 : Int) * ((p : Int) + 1) - m) % 1024 = 1024 - m := by omega
  rw [e1, e2]
  have hg : 0 ≤ ([0, 1, 2, -1] : List Int).getD p 0 := by
    rcases p with _ | _ | _ | p
    · decide
    · decide
    · decide
    · omega
  simp only [List.length_cons, List.length_nil]
  omega
theorem bytes_zeros (n : Nat) : Bytes (List.replicate n 0) := fun x hx => by rw [List.eq_of_mem_replicate hx]; decide
end Go.Proofs.Ytmffdlebahdihaa.Arena

/- Rows of acts that came in: slices of structs of numbers, opened. No program in sight. -/
namespace Go.Proofs.Ytmffdlebahdihaa.Mem
open Go Go.RowKit Go.ChangeShapes Go.WideShapes
set_option linter.unusedVariables false
set_option maxRecDepth 100000
/-- a row of structs that came in, each of numbers of these kinds -/
structure SRow (w : World) (ks : List IntKind) (A : Option Addr) (c : Nat) (l : List (List Int)) : Prop where
  cap : l.length ≤ c
  most : c ≤ maxLen
  cell : ∀ i, i < l.length → ∀ j k, ks[j]? = some k → ∃ ad, A = some ad ∧ w.cell? (ad.add (i * ks.length + j)) = some (.int k ((l.getD i []).getD j 0))
  wf : ∀ i, i < l.length → ∀ j k, ks[j]? = some k → (Lit.int k ((l.getD i []).getD j 0)).wf = true
/-- a field's address, as the walk spells it -/
theorem add_field (ad : Addr) (i j : Nat) : ad.add (i + (j + 1)) = ⟨(ad.add i).block, (ad.add i).off + (j + 1), none⟩ := by
  rw [← add_add]
  show (if j + 1 = 0 then _ else _) = _
  rw [if_neg (by omega)]
theorem SRow.fields {w : World} {ks : List IntKind} {A : Option Addr} {c : Nat} {l : List (List Int)} (h : SRow w ks A c l) (i : Nat) (hi : i < l.length) (hk : 0 < ks.length) :
    ∃ ad, A = some ad ∧ (∀ k, ks[0]? = some k → w.cell? (ad.add (i * ks.length)) = some (.int k ((l.getD i []).getD 0 0))) ∧ ∀ j k, ks[j + 1]? = some k → w.cell? ⟨(ad.add (i * ks.length)).block, (ad.add (i * ks.length)).off + (j + 1), none⟩ = some (.int k ((l.getD i []).getD (j + 1) 0)) := by
  obtain ⟨ad, e, _⟩ := h.cell i hi 0 _ (List.getElem?_eq_getElem hk)
  refine ⟨ad, e, fun k h0 => ?_, fun j k h1 => ?_⟩
  · obtain ⟨ad', e', c⟩ := h.cell i hi 0 k h0
    rw [e] at e'
    cases e'
    rw [Nat.add_zero] at c
    exact c
  · obtain ⟨ad', e', c⟩ := h.cell i hi (j + 1) k h1
    rw [e] at e'
    cases e'
    rw [add_field] at c
    exact c
theorem SRow.chg {w w' : World} {ks : List IntKind} {A : Option Addr} {c : Nat} {l : List (List Int)} {B : Nat} (h : SRow w ks A c l) (hc : Chg (fun b => B ≤ b) w w') (hB : w.heap.size ≤ B) : SRow w' ks A c l where
  cap := h.cap
  most := h.most
  cell i hi j k hk := by
    obtain ⟨ad, e, c⟩ := h.cell i hi j k hk
    refine ⟨ad, e, hc.cell c ?_⟩
    have := World.block_lt_of_cell? w _ c
    omega
  wf := h.wf
section
variable {H : Type} {enc : TypeId × Value → H} {P : Program} {w : World} {base : Nat} {spare : Nat → Bool} {held : Bool}
theorem open_srow {t e : TypeId} {fs : Array Field} {ks : List IntKind} {fuel len cap : Nat} {A : Option Addr} {x : DataW H × List MemPlace} (ht : P.underlying t = some (.slice e)) (he : P.underlying e = some (.struct fs)) (ce : P.cellsOf e = ks.length)
    (hs : fs.size = ks.length) (hf : ∀ j k, ks[j]? = some k → ∃ f : Field, fs[j]? = some f ∧ f.offset = j ∧ P.cellsOf f.type = 1 ∧ P.underlying f.type = some (.int k))
    (h : DataW.trod enc P w base spare held fuel t [.slice A len cap] = some x) : ∃ l : List (List Int), l.length = len ∧ SRow w ks A cap l := by
  rcases Deep.open_slice ht h with ⟨h0, _⟩ | ⟨a, len', cap', m, n, D, Pl, hcs, hb, hl, hm, hmm, _, hx⟩
  · simp at h0
    obtain ⟨rfl, rfl, rfl⟩ := h0
    exact ⟨[], rfl, ⟨Nat.le_refl _, by unfold maxLen; omega, fun i hi => by simp at hi, fun i hi => by simp at hi⟩⟩
  · simp at hcs
    obtain ⟨rfl, rfl, rfl⟩ := hcs
    have hlm : len ≤ m := by rw [hmm]; split <;> omega
    have each : ∀ i, i < len → ∃ r : List Int, ∀ j k, ks[j]? = some k → w.cell? (a.add (i * ks.length + j)) = some (.int k (r.getD j 0)) ∧ (Lit.int k (r.getD j 0)).wf = true := by
      intro i hi
      obtain ⟨cs', h1, h2⟩ := hx i (by omega)
      rw [ce] at h1
      obtain ⟨_, hlen, hcell⟩ := World.cells?_some h1
      obtain ⟨xs, k, hk, _, _, hxl, hg⟩ := DataW.trod_struct he h2
      have one : ∀ j kd, ks[j]? = some kd → ∃ z : Int, w.cell? (a.add (i * ks.length + j)) = some (.int kd z) ∧ (Lit.int kd z).wf = true := by
        intro j kd hj
        have hjl : j < ks.length := by
          rcases Nat.lt_or_ge j ks.length with h | h
          · exact h
          · rw [List.getElem?_eq_none h] at hj; cases hj
        obtain ⟨f, f1, f2, f3, f4⟩ := hf j kd hj
        have g := hg j f f1
        rw [f2, f3, List.getElem?_eq_getElem (by omega)] at g
        obtain ⟨z, e1, _, e3⟩ := DataW.trod_int f4 g
        refine ⟨z, ?_, e3⟩
        have hc := hcell j hjl
        rw [add_add] at hc
        rw [hc]
        have : ((cs'.drop j).take 1)[0]? = some (.int kd z) := by rw [e1]; rfl
        rw [List.getElem?_take, if_pos (by omega), List.getElem?_drop] at this
        exact this
      obtain ⟨Z, hZ⟩ := Deep.choose_lt (α := Int) (p := fun j z => ∀ kd, ks[j]? = some kd → w.cell? (a.add (i * ks.length + j)) = some (.int kd z) ∧ (Lit.int kd z).wf = true) (n := ks.length) (fun j hj => by
        obtain ⟨z, h1, h2⟩ := one j _ (List.getElem?_eq_getElem hj)
        refine ⟨z, fun kd hk => ?_⟩
        rw [List.getElem?_eq_getElem hj] at hk
        injection hk with hk
        subst hk
        exact ⟨h1, h2⟩)
      refine ⟨(List.range ks.length).map Z, fun j kd hj => ?_⟩
      have hjl : j < ks.length := by
        rcases Nat.lt_or_ge j ks.length with h | h
        · exact h
        · rw [List.getElem?_eq_none h] at hj; cases hj
      have e : ((List.range ks.length).map Z).getD j 0 = Z j := by
        rw [List.getD_eq_getElem?_getD, List.getElem?_map, List.getElem?_range hjl]; rfl
      rw [e]
      exact hZ j hjl kd hj
    obtain ⟨R, hR⟩ := Deep.choose_lt (α := List Int) (p := fun i r => ∀ j k, ks[j]? = some k → w.cell? (a.add (i * ks.length + j)) = some (.int k (r.getD j 0)) ∧ (Lit.int k (r.getD j 0)).wf = true) each
    have hg : ∀ i, i < len → ((List.range len).map R).getD i [] = R i := fun i hi => by
      rw [List.getD_eq_getElem?_getD, List.getElem?_map, List.getElem?_range hi]; rfl
    refine ⟨(List.range len).map R, by simp, ⟨by simpa using hl, hm, fun i hi j k hk => ?_, fun i hi j k hk => ?_⟩⟩
    · have hi' : i < len := by simpa using hi
      rw [hg i hi']
      exact ⟨a, rfl, (hR i hi' j k hk).1⟩
    · have hi' : i < len := by simpa using hi
      rw [hg i hi']
      exact (hR i hi' j k hk).2

/-- an act of chapter 05: four numbers and a row of bytes -/
structure Op5 where
  kind : Int
  at_ : Int
  n : Int
  v : Int
  A : Option Addr
  c : Nat
  b : List Int
def Op5.none : Op5 := ⟨0, 0, 0, 0, Option.none, 0, []⟩
instance : Inhabited Op5 := ⟨Op5.none⟩
structure ORow (w : World) (A : Option Addr) (c : Nat) (l : List Op5) : Prop where
  cap : l.length ≤ c
  most : c ≤ maxLen
  op : ∀ i, i < l.length → ∃ ad, A = some ad ∧ w.cell? (ad.add (i * 5)) = some (.int .i64 (l.getD i Op5.none).kind) ∧ w.cell? (ad.add (i * 5 + 1)) = some (.int .i64 (l.getD i Op5.none).at_) ∧ w.cell? (ad.add (i * 5 + 2)) = some (.int .i64 (l.getD i Op5.none).n)
    ∧ w.cell? (ad.add (i * 5 + 3)) = some (.int .u64 (l.getD i Op5.none).v) ∧ w.cell? (ad.add (i * 5 + 4)) = some (.slice (l.getD i Op5.none).A (l.getD i Op5.none).b.length (l.getD i Op5.none).c)
    ∧ (Lit.int .i64 (l.getD i Op5.none).kind).wf = true ∧ (Lit.int .i64 (l.getD i Op5.none).at_).wf = true ∧ (Lit.int .i64 (l.getD i Op5.none).n).wf = true ∧ (Lit.int .u64 (l.getD i Op5.none).v).wf = true ∧ RowOf w .u8 (l.getD i Op5.none).A (l.getD i Op5.none).c (l.getD i Op5.none).b 0
theorem RowOf.later {w w' : World} {k : IntKind} {A : Option Addr} {c b : Nat} {l : List Int} {B : Nat} (h : RowOf w k A c l b) (hc : Chg (fun b => B ≤ b) w w') (hB : w.heap.size ≤ B) : RowOf w' k A c l b :=
  ⟨h.cap, h.most, h.reach, h.sl.later hc hB, h.wf, h.nil⟩
theorem ORow.chg {w w' : World} {A : Option Addr} {c : Nat} {l : List Op5} {B : Nat} (h : ORow w A c l) (hc : Chg (fun b => B ≤ b) w w') (hB : w.heap.size ≤ B) : ORow w' A c l where
  cap := h.cap
  most := h.most
  op i hi := by
    obtain ⟨ad, e, c0, c1, c2, c3, c4, w0, w1, w2, w3, r⟩ := h.op i hi
    have k : ∀ {a : Addr} {v : Value}, w.cell? a = some v → w'.cell? a = some v := fun {a v} hv => hc.cell hv (by have := World.block_lt_of_cell? w _ hv; omega)
    exact ⟨ad, e, k c0, k c1, k c2, k c3, k c4, w0, w1, w2, w3, r.later hc hB⟩
theorem ORow.fields {w : World} {A : Option Addr} {c : Nat} {l : List Op5} (h : ORow w A c l) (i : Nat) (hi : i < l.length) : ∃ ad, A = some ad ∧ w.cell? (ad.add (i * 5)) = some (.int .i64 (l.getD i Op5.none).kind)
    ∧ w.cell? ⟨(ad.add (i * 5)).block, (ad.add (i * 5)).off + 1, none⟩ = some (.int .i64 (l.getD i Op5.none).at_) ∧ w.cell? ⟨(ad.add (i * 5)).block, (ad.add (i * 5)).off + 2, none⟩ = some (.int .i64 (l.getD i Op5.none).n)
    ∧ w.cell? ⟨(ad.add (i * 5)).block, (ad.add (i * 5)).off + 3, none⟩ = some (.int .u64 (l.getD i Op5.none).v) ∧ w.cell? ⟨(ad.add (i * 5)).block, (ad.add (i * 5)).off + 4, none⟩ = some (.slice (l.getD i Op5.none).A (l.getD i Op5.none).b.length (l.getD i Op5.none).c) := by
  obtain ⟨ad, e, c0, c1, c2, c3, c4, _⟩ := h.op i hi
  rw [add_field] at c1 c2 c3 c4
  exact ⟨ad, e, c0, c1, c2, c3, c4⟩
theorem open_orow {t e eb : TypeId} {f0 f1 f2 f3 f4 : Field} {fuel len cap : Nat} {A : Option Addr} {x : DataW H × List MemPlace} (ht : P.underlying t = some (.slice e)) (he : P.underlying e = some (.struct #[f0, f1, f2, f3, f4])) (ce : P.cellsOf e = 5)
    (o : f0.offset = 0 ∧ f1.offset = 1 ∧ f2.offset = 2 ∧ f3.offset = 3 ∧ f4.offset = 4) (cc : P.cellsOf f0.type = 1 ∧ P.cellsOf f1.type = 1 ∧ P.cellsOf f2.type = 1 ∧ P.cellsOf f3.type = 1 ∧ P.cellsOf f4.type = 1)
    (u0 : P.underlying f0.type = some (.int .i64)) (u1 : P.underlying f1.type = some (.int .i64)) (u2 : P.underlying f2.type = some (.int .i64)) (u3 : P.underlying f3.type = some (.int .u64)) (u4 : P.underlying f4.type = some (.slice eb)) (ub : P.underlying eb = some (.int .u8)) (cb : P.cellsOf eb = 1)
    (h : DataW.trod enc P w base spare held fuel t [.slice A len cap] = some x) : ∃ l : List Op5, l.length = len ∧ ORow w A cap l := by
  rcases Deep.open_slice ht h with ⟨h0, _⟩ | ⟨a, len', cap', m, n, D, Pl, hcs, hb, hl, hm, hmm, _, hx⟩
  · simp at h0
    obtain ⟨rfl, rfl, rfl⟩ := h0
    exact ⟨[], rfl, ⟨Nat.le_refl _, by unfold maxLen; omega, fun i hi => by simp at hi⟩⟩
  · simp at hcs
    obtain ⟨rfl, rfl, rfl⟩ := hcs
    have hlm : len ≤ m := by rw [hmm]; split <;> omega
    obtain ⟨o0, o1, o2, o3, o4⟩ := o
    obtain ⟨c0, c1, c2, c3, c4⟩ := cc
    have each : ∀ i, i < len → ∃ r : Op5, w.cell? (a.add (i * 5)) = some (.int .i64 r.kind) ∧ w.cell? (a.add (i * 5 + 1)) = some (.int .i64 r.at_) ∧ w.cell? (a.add (i * 5 + 2)) = some (.int .i64 r.n)
        ∧ w.cell? (a.add (i * 5 + 3)) = some (.int .u64 r.v) ∧ w.cell? (a.add (i * 5 + 4)) = some (.slice r.A r.b.length r.c)
        ∧ (Lit.int .i64 r.kind).wf = true ∧ (Lit.int .i64 r.at_).wf = true ∧ (Lit.int .i64 r.n).wf = true ∧ (Lit.int .u64 r.v).wf = true ∧ RowOf w .u8 r.A r.c r.b 0 := by
      intro i hi
      obtain ⟨cs', h1, h2⟩ := hx i (by omega)
      rw [ce] at h1
      obtain ⟨_, hlen, hcell⟩ := World.cells?_some h1
      obtain ⟨xs, k, hk, _, _, hxl, hg⟩ := DataW.trod_struct he h2
      match cs', hlen, xs, hxl with
      | [v0, v1, v2, v3, v4], _, [y0, y1, y2, y3, y4], _ =>
        have g0 := hg 0 f0 rfl
        have g1 := hg 1 f1 rfl
        have g2 := hg 2 f2 rfl
        have g3 := hg 3 f3 rfl
        have g4 := hg 4 f4 rfl
        simp [o0, o1, o2, o3, o4, c0, c1, c2, c3, c4] at g0 g1 g2 g3 g4
        have d0 := hcell 0 (by omega)
        have d1 := hcell 1 (by omega)
        have d2 := hcell 2 (by omega)
        have d3 := hcell 3 (by omega)
        have d4 := hcell 4 (by omega)
        rw [add_add] at d0 d1 d2 d3 d4
        simp at d0 d1 d2 d3 d4
        obtain ⟨z0, e0, _, w0⟩ := DataW.trod_int u0 g0
        obtain ⟨z1, e1, _, w1⟩ := DataW.trod_int u1 g1
        obtain ⟨z2, e2, _, w2⟩ := DataW.trod_int u2 g2
        obtain ⟨z3, e3, _, w3⟩ := DataW.trod_int u3 g3
        simp at e0 e1 e2 e3
        subst e0 e1 e2 e3
        rcases open_ints u4 ub cb g4 with ⟨e4, _⟩ | ⟨x4, l4, c4', zs, e4, _, hl4, hm4, hz4, _, hcell4, hwz4⟩
        · simp at e4
          subst e4
          exact ⟨⟨z0, z1, z2, z3, none, 0, []⟩, d0, d1, d2, d3, d4, w0, w1, w2, w3, RowOf.none w .u8 0⟩
        · simp at e4
          subst e4
          have hlz : l4 ≤ zs.length := by rw [hz4]; split <;> omega
          have hlt : (zs.take l4).length = l4 := by rw [List.length_take]; omega
          refine ⟨⟨z0, z1, z2, z3, some x4, c4', zs.take l4⟩, d0, d1, d2, d3, ?_, w0, w1, w2, w3, ⟨?_, hm4, by omega, fun j hj => ⟨x4, rfl, ?_⟩, fun y hy => hwz4 y (List.mem_of_mem_take hy), fun h => by cases h⟩⟩
          · show w.cell? _ = some (.slice _ (zs.take l4).length _)
            rw [hlt]; exact d4
          · show (zs.take l4).length ≤ c4'
            rw [hlt]; exact hl4
          · have hj' : j < l4 := by rw [hlt] at hj; exact hj
            rw [hcell4 j (by omega)]
            congr 2
            simp [List.getD_eq_getElem?_getD, hj']
    obtain ⟨R, hR⟩ := Deep.choose_lt (α := Op5) (p := fun i r => w.cell? (a.add (i * 5)) = some (.int .i64 r.kind) ∧ w.cell? (a.add (i * 5 + 1)) = some (.int .i64 r.at_) ∧ w.cell? (a.add (i * 5 + 2)) = some (.int .i64 r.n)
        ∧ w.cell? (a.add (i * 5 + 3)) = some (.int .u64 r.v) ∧ w.cell? (a.add (i * 5 + 4)) = some (.slice r.A r.b.length r.c)
        ∧ (Lit.int .i64 r.kind).wf = true ∧ (Lit.int .i64 r.at_).wf = true ∧ (Lit.int .i64 r.n).wf = true ∧ (Lit.int .u64 r.v).wf = true ∧ RowOf w .u8 r.A r.c r.b 0) each
    have hg : ∀ i, i < len → ((List.range len).map R).getD i Op5.none = R i := fun i hi => by
      rw [List.getD_eq_getElem?_getD, List.getElem?_map, List.getElem?_range hi]; rfl
    refine ⟨(List.range len).map R, by simp, ⟨by simpa using hl, hm, fun i hi => ?_⟩⟩
    have hi' : i < len := by simpa using hi
    rw [hg i hi']
    exact ⟨a, rfl, hR i hi'⟩
end
end Go.Proofs.Ytmffdlebahdihaa.Mem

/- The walk of the law ArenaPages: it returns true at any number of pages and any acts. -/
namespace Go.Proofs.Ytmffdlebahdihaa.Arena
open Go Go.RowKit Go.Proofs.Ytmffdlebahdihaa.Mem Go.Proofs.Ytmffdlebahdihaa.CodecPure Go.Proofs.Ytmffdlebahdihaa.ArenaPure Go.Proofs.Ytmffdlebahdihaa.Codec
set_option linter.unusedVariables false
set_option maxRecDepth 100000
/-- an arena and, beside it, a row o of numbers l -/
structure PInv (B : Nat) (w0 w : World) (a : Ar) (s : St) (o n : Nat) (l : List Int) : Prop where
  here : Here B w0 w a s
  own : Own w B 3 .i64 (.slice (some ⟨o, 0, none⟩) n n) l
  len : l.length = n
  out : o ≠ a.g ∧ o ≠ a.ps ∧ o ∉ a.pb
  low : B ≤ o
variable {B o n : Nat} {w0 w w' : World} {a : Ar} {s s' : St} {l : List Int}
theorem PInv.arena (h : PInv B w0 w a s o n l) (hl : Lies w' a s') (hc : Chg (· ∈ a.pb) w w') : PInv B w0 w' a s' o n l :=
  ⟨h.here.now hl hc, h.own.chg hc fun g e => by simp [Value.ownBlock] at e; subst e; exact h.out.2.2, h.len, h.out, h.low⟩
theorem PInv.fresh (h : PInv B w0 w a s o n l) (hc : Chg (fun _ => False) w w') : PInv B w0 w' a s o n l :=
  ⟨h.here.fresh hc, h.own.chg hc fun g e => id, h.len, h.out, h.low⟩
theorem PInv.store (h : PInv B w0 w a s o n l) (i : Nat) (hi : i < n) (v : Int) : PInv B w0 (w.setCell ⟨o, i, none⟩ (.int .i64 v)) a s o n (l.set i v) :=
  ⟨⟨h.here.lies.chg (Chg.setCell (S := fun x => x = o) w ⟨o, i, none⟩ _ rfl) h.out.1.symm h.out.2.1.symm fun b hb e => h.out.2.2 (e ▸ hb), h.here.chg.trans (Chg.setCell _ _ _ h.low), h.here.low⟩,
    h.own.setc i (by rw [h.len]; exact hi) v, by rw [List.length_set]; exact h.len, h.out, h.low⟩
theorem PInv.cell (h : PInv B w0 w a s o n l) (i : Nat) (hi : i < n) : w.cell? ⟨o, i, none⟩ = some (.int .i64 (l.getD i 0)) ∧ w.frozen? ⟨o, i, none⟩ = false := h.own.cellAt i (by rw [h.len]; exact hi)
theorem make_ints (n : Nat) (h : n ≤ 1000000) (W : World) : (Instr.makeSlice 25 (.int .i64 n) (.int .i64 n)).run Try.prog W = .ok (.slice (some ⟨W.heap.size, 0, none⟩) n n) (W.alloc (.cells (nums .i64 (List.replicate n 0)).toArray 3)) := by
  obtain ⟨i0, hi, hz0, hz1, hz2⟩ := info_parts infoInt
  rw [run_make W 25 3 i0 (.int .i64 0) Try.underlying25 hi hz0 .i64 .i64 n n (by omega) (by omega) (by rw [hz2]; omega) (by omega), hz1]
  have e : ((n : Int)).toNat = n := by omega
  have e2 : madeCells (Value.int .i64 0).cells (n * 1) = (nums .i64 (List.replicate n 0)).toArray := by
    apply Array.ext_getElem?
    intro i
    unfold madeCells nums
    rw [Array.getElem?_map, Array.getElem?_range, List.getElem?_toArray, List.getElem?_map, List.getElem?_replicate, Nat.mul_one]
    split
    · show some (#[Value.int .i64 0][i % 1]!) = some (Value.int .i64 0)
      rw [Nat.mod_one]; rfl
    · rfl
  rw [e, e2]
theorem PInv.start (h : Here B w0 w a s) (n : Nat) (hn : n ≤ 1000000) : PInv B w0 (w.alloc (.cells (nums .i64 (List.replicate n 0)).toArray 3)) a s w.heap.size n (List.replicate n 0) where
  here := h.alloc _
  own := by
    have := Own.lit w 3 .i64 (List.replicate n 0) (by rw [List.length_replicate]; unfold maxLen; omega)
    rw [List.length_replicate] at this
    exact this.mono (by
      have := blk_lt h.lies.head
      have := h.low.1
      omega)
  len := by rw [List.length_replicate]
  out := by
    have h1 := blk_lt h.lies.head
    have h2 := World.block_lt_of_cell? w _ (h.lies.row 0 h.lies.ok.low)
    refine ⟨by omega, fun e => ?_, fun hb => ?_⟩
    · rw [← e] at h2; exact Nat.lt_irrefl _ h2
    · obtain ⟨i, hi, e⟩ := h.lies.of_mem hb
      have := blk_lt (h.lies.page i hi)
      omega
  low := by
    have := blk_lt h.lies.head
    have := h.low.1
    omega
theorem first_le (l : List Int) : first l ≤ l.length := List.findIdx_le_length
theorem first_before (l : List Int) (j : Nat) (h : j < first l) : 0 ≤ l.getD j 0 := by
  have hj : j < l.length := Nat.lt_of_lt_of_le h (first_le l)
  have := List.not_of_lt_findIdx h
  rw [List.getD_eq_getElem?_getD, List.getElem?_eq_getElem hj]
  simpa using this
theorem first_at (l : List Int) (h : first l < l.length) : l.getD (first l) 0 < 0 := by
  have h2 : decide (l[first l] < 0) = true := List.findIdx_getElem (w := h)
  rw [List.getD_eq_getElem?_getD, List.getElem?_eq_getElem h]
  exact of_decide_eq_true h2
theorem set_same (l : List Int) (i : Nat) (v : Int) (h : l.getD i 0 = v) : l.set i v = l := by
  apply List.ext_getElem?
  intro j
  rw [List.getElem?_set]
  by_cases e : i = j
  · subst e
    by_cases hi : i < l.length
    · rw [if_pos rfl, if_pos hi, List.getElem?_eq_getElem hi]
      rw [List.getD_eq_getElem?_getD, List.getElem?_eq_getElem hi] at h
      rw [← h]; rfl
    · rw [if_pos rfl, if_neg hi, List.getElem?_eq_none (by omega)]
  · rw [if_neg e]
theorem setN (l : List Int) (n k : Nat) (h : l.length = n) (hl : l = List.replicate k (-1) ++ List.replicate (n - k) 0) (hk : k < n) : l.set k (-1) = List.replicate (k + 1) (-1) ++ List.replicate (n - (k + 1)) 0 := by
  subst hl
  apply List.ext_getElem?
  intro i
  rw [List.getElem?_set]
  by_cases e : k = i
  · subst e
    rw [if_pos rfl, if_pos (by rw [h]; exact hk), List.getElem?_append_left (by rw [List.length_replicate]; omega), List.getElem?_replicate, if_pos (by omega)]
  · rw [if_neg e]
    by_cases h1 : i < k
    · rw [List.getElem?_append_left (by rw [List.length_replicate]; omega), List.getElem?_append_left (by rw [List.length_replicate]; omega), List.getElem?_replicate, List.getElem?_replicate, if_pos h1, if_pos (by omega)]
    · rw [List.getElem?_append_right (by rw [List.length_replicate]; omega), List.getElem?_append_right (by rw [List.length_replicate]; omega), List.length_replicate, List.length_replicate, List.getElem?_replicate, List.getElem?_replicate]
      by_cases h2 : i < n
      · rw [if_pos (by omega), if_pos (by omega)]
      · rw [if_neg (by omega), if_neg (by omega)]
end Go.Proofs.Ytmffdlebahdihaa.Arena

/- The walk of the law ArenaClean: it returns true at any number of pages, place, bytes and page. -/
namespace Go.Proofs.Ytmffdlebahdihaa.Arena
open Go Go.RowKit Go.Proofs.Ytmffdlebahdihaa.Mem Go.Proofs.Ytmffdlebahdihaa.CodecPure Go.Proofs.Ytmffdlebahdihaa.ArenaPure Go.Proofs.Ytmffdlebahdihaa.Codec
set_option linter.unusedVariables false
set_option maxRecDepth 100000
/-- k pages granted, each with b at its place; the others free and clean -/
structure CInv (s : St) (n k at_ : Nat) (b : List Int) : Prop where
  ok : Ok s
  own : s.own = List.replicate k 0 ++ List.replicate (n - k) (-1)
  kn : k ≤ n
  pages : ∀ i, i < n → pg s.B i = if i < k then splice Z1024 at_ b else Z1024
theorem CInv.len {s : St} {n k at_ : Nat} {b : List Int} (h : CInv s n k at_ b) : s.own.length = n := by
  have := h.kn
  rw [h.own, List.length_append, List.length_replicate, List.length_replicate]; omega
theorem CInv.get {s : St} {n k at_ : Nat} {b : List Int} (h : CInv s n k at_ b) (i : Nat) (hi : i < n) : s.own.getD i 0 = if i < k then 0 else -1 := by
  have := h.kn
  rw [h.own, List.getD_eq_getElem?_getD]
  by_cases e : i < k
  · rw [if_pos e, List.getElem?_append_left (by rw [List.length_replicate]; exact e), List.getElem?_replicate, if_pos e]; rfl
  · rw [if_neg e, List.getElem?_append_right (by rw [List.length_replicate]; omega), List.length_replicate, List.getElem?_replicate, if_pos (by omega)]; rfl
theorem CInv.start (n at_ : Nat) (b : List Int) (h1 : 1 ≤ n) (h2 : n ≤ 32) : CInv (new n) n 0 at_ b :=
  ⟨new_ok n h1 h2, by simp [new], Nat.zero_le _, fun i hi => by rw [if_neg (by omega)]; exact new_pg n i hi⟩
theorem set_next (n k : Nat) (h : k < n) : (List.replicate k (0 : Int) ++ List.replicate (n - k) (-1)).set k 0 = List.replicate (k + 1) 0 ++ List.replicate (n - (k + 1)) (-1) := by
  apply List.ext_getElem?
  intro i
  rw [List.getElem?_set]
  by_cases e : k = i
  · subst e
    rw [if_pos rfl, if_pos (by rw [List.length_append, List.length_replicate, List.length_replicate]; omega), List.getElem?_append_left (by rw [List.length_replicate]; omega), List.getElem?_replicate, if_pos (by omega)]
  · rw [if_neg e]
    by_cases h1 : i < k
    · rw [List.getElem?_append_left (by rw [List.length_replicate]; omega), List.getElem?_append_left (by rw [List.length_replicate]; omega), List.getElem?_replicate, List.getElem?_replicate, if_pos h1, if_pos (by omega)]
    · rw [List.getElem?_append_right (by rw [List.length_replicate]; omega), List.getElem?_append_right (by rw [List.length_replicate]; omega), List.length_replicate, List.length_replicate, List.getElem?_replicate, List.getElem?_replicate]
      by_cases h2 : i < n
      · rw [if_pos (by omega), if_pos (by omega)]
      · rw [if_neg (by omega), if_neg (by omega)]
theorem CInv.step {s : St} {n k at_ : Nat} {b : List Int} (h : CInv s n k at_ b) (hk : k < n) (ha : at_ < 500) (hb : b.length ≤ 500) (hB : Bytes b) :
    ∃ s1 s2, grant s 0 = (s1, (k : Int), 0) ∧ write s1 (1024 * (k : Int) + at_) b = (s2, 0) ∧ CInv s2 n (k + 1) at_ b := by
  have hl := h.len
  have fe : first s.own = k := first_eq _ _ (by rw [hl]; exact hk) (by rw [h.get k hk, if_neg (by omega)]; decide) fun j hj => by rw [h.get j (by omega), if_pos hj]; decide
  have G : grant s 0 = (granted s k 0, (k : Int), 0) := by
    unfold grant
    rw [if_neg (by decide), fe, if_pos (by rw [hl]; exact hk)]; rfl
  have ok1 : Ok (granted s k 0) := granted_ok h.ok k 0 (by rw [hl]; exact hk) (by decide)
  have hl1 : (granted s k 0).own.length = n := by simp [granted, hl]
  have e1 : ((1024 * (k : Int) + at_) / 1024).toNat = k := by omega
  have e2 : ((1024 * (k : Int) + at_) % 1024).toNat = at_ := by omega
  have W : within (granted s k 0) (1024 * (k : Int) + at_) b.length := by
    unfold within
    rw [hl1, e1]
    refine ⟨by omega, by omega, by omega, ?_, by omega⟩
    show 0 ≤ (s.own.set k 0).getD k 0
    rw [getD_set _ _ _ _ (by rw [hl]; exact hk), if_pos rfl]; decide
  refine ⟨_, _, G, if_pos W, ?_, ?_, by omega, fun i hi => ?_⟩
  · exact lay_ok ok1 (by have := in_row ok1 W; omega) hB
  · show s.own.set k 0 = _
    rw [h.own]; exact set_next n k hk
  · rw [lay_page ok1 W i (by rw [hl1]; exact hi), e1, e2]
    have gp : pg (granted s k 0).B i = if i = k then Z1024 else pg s.B i := granted_pg h.ok k i (by rw [hl]; exact hk) (by rw [hl]; exact hi)
    rw [gp]
    by_cases e : i = k
    · rw [if_pos e, if_pos e, if_pos (by omega)]
    · rw [if_neg e, if_neg e, h.pages i hi]
      by_cases e3 : i < k
      · rw [if_pos e3, if_pos (by omega)]
      · rw [if_neg e3, if_neg (by omega)]
theorem CInv.last {s : St} {n at_ : Nat} {b : List Int} (h : CInv s n n at_ b) (p : Nat) (hp : p < n) :
    ∃ s1 s2, ArenaPure.ret s p = (s1, 0) ∧ grant s1 1 = (s2, (p : Int), 0) ∧ ∀ i, i < n → readA s2 (1024 * (i : Int)) 1024 = (if i = p then Z1024 else splice Z1024 at_ b, 0) := by
  have hl := h.len
  have hpl : p < s.own.length := by rw [hl]; exact hp
  have R : ArenaPure.ret s p = (⟨s.own.set p (-1), s.B⟩, 0) := by
    unfold ArenaPure.ret
    rw [if_neg (by omega), Int.toNat_natCast, if_neg (by rw [h.get p hp, if_pos hp]; decide)]
  have ok1 : Ok (⟨s.own.set p (-1), s.B⟩ : St) := ok_set h.ok p (-1) hpl (by decide) _ rfl h.ok.bytes
  have hl1 : (s.own.set p (-1)).length = n := by rw [List.length_set]; exact hl
  have fe : first (s.own.set p (-1)) = p := first_eq _ _ (by rw [hl1]; exact hp) (by rw [getD_set _ _ _ _ hpl, if_pos rfl]; decide) fun j hj => by rw [getD_set _ _ _ _ hpl, if_neg (by omega), h.get j (by omega), if_pos (by omega)]; decide
  have G : grant ⟨s.own.set p (-1), s.B⟩ 1 = (granted ⟨s.own.set p (-1), s.B⟩ p 1, (p : Int), 0) := by
    unfold grant
    show (if _ then _ else if first (s.own.set p (-1)) < (s.own.set p (-1)).length then _ else _) = _
    rw [if_neg (by decide), fe, if_pos (by rw [hl1]; exact hp)]; rfl
  have ok2 := granted_ok ok1 p 1 (by show p < (s.own.set p (-1)).length; rw [hl1]; exact hp) (by decide)
  have hl2 : (granted ⟨s.own.set p (-1), s.B⟩ p 1).own.length = n := by simp [granted, hl]
  refine ⟨_, _, R, G, fun i hi => ?_⟩
  have e1 : ((1024 * (i : Int)) / 1024).toNat = i := by omega
  have e2 : ((1024 * (i : Int)) % 1024).toNat = 0 := by omega
  have W : within (granted ⟨s.own.set p (-1), s.B⟩ p 1) (1024 * (i : Int)) 1024 := by
    unfold within
    rw [hl2, e1]
    refine ⟨by omega, by omega, by omega, ?_, by omega⟩
    show 0 ≤ ((s.own.set p (-1)).set p 1).getD i 0
    rw [getD_set _ _ _ _ (by rw [hl1]; exact hp)]
    by_cases e : i = p
    · rw [if_pos e]; decide
    · rw [if_neg e, getD_set _ _ _ _ hpl, if_neg e, h.get i hi, if_pos hi]; decide
  unfold readA
  rw [if_pos W, got_page ok2 W, e1, e2, List.drop_zero]
  have gp : pg (granted ⟨s.own.set p (-1), s.B⟩ p 1).B i = if i = p then Z1024 else pg s.B i := granted_pg ok1 p i (by show p < (s.own.set p (-1)).length; rw [hl1]; exact hp) (by show i < (s.own.set p (-1)).length; rw [hl1]; exact hi)
  have lp := pg_length ok2 i (by rw [hl2]; exact hi)
  rw [List.take_of_length_le (by rw [lp]; decide), gp, h.pages i hi, if_pos hi]
/-- a byte of what is read -/
def seen (i p at_ k : Nat) (b : List Int) : Int := if i ≠ p ∧ at_ ≤ k ∧ k < at_ + b.length then b.getD (k - at_) 0 else 0
theorem seen_eq (i p at_ k : Nat) (b : List Int) (h : at_ + b.length ≤ 1024) (hk : k < 1024) : (if i = p then Z1024 else splice Z1024 at_ b).getD k 0 = seen i p at_ k b := by
  unfold seen
  by_cases e : i = p
  · rw [if_pos e, if_neg (by omega), Z1024_getD]
  · rw [if_neg e, List.getD_eq_getElem?_getD, splice_get _ _ _ (by rw [Z1024_length]; exact h)]
    by_cases h2 : at_ ≤ k ∧ k < at_ + b.length
    · rw [if_pos h2, if_pos ⟨e, h2⟩, List.getD_eq_getElem?_getD]
    · rw [if_neg h2, if_neg (fun h => h2 h.2), ← List.getD_eq_getElem?_getD, Z1024_getD]
end Go.Proofs.Ytmffdlebahdihaa.Arena

/- The walk of the law ArenaKeeps: it returns true at any place, bytes and acts. -/
namespace Go.Proofs.Ytmffdlebahdihaa.Arena
open Go Go.RowKit Go.Proofs.Ytmffdlebahdihaa.Mem Go.Proofs.Ytmffdlebahdihaa.CodecPure Go.Proofs.Ytmffdlebahdihaa.ArenaPure Go.Proofs.Ytmffdlebahdihaa.Codec
set_option linter.unusedVariables false
set_option maxRecDepth 100000
/-- page 0 is granted, and b lies in it from A on -/
structure KInv (s : St) (A : Nat) (b : List Int) : Prop where
  ok : Ok s
  len : s.own.length = 4
  own : 0 ≤ s.own.getD 0 0
  byt : (s.B.drop A).take b.length = b
  fit : A + b.length ≤ 900
theorem splice_far (L X : List Int) (off a n : Nat) (h : off + X.length ≤ L.length) (hf : a + n ≤ off ∨ off + X.length ≤ a) : ((splice L off X).drop a).take n = (L.drop a).take n := by
  apply List.ext_getElem?
  intro i
  rw [List.getElem?_take, List.getElem?_take]
  by_cases hi : i < n
  · rw [if_pos hi, if_pos hi, List.getElem?_drop, List.getElem?_drop, splice_get _ _ _ h, if_neg (by omega)]
  · rw [if_neg hi, if_neg hi]
theorem KInv.grant {s : St} {A : Nat} {b : List Int} (h : KInv s A b) (c : Int) : KInv (grant s c).1 A b := by
  unfold ArenaPure.grant
  by_cases h1 : c < 0 ∨ 8 ≤ c
  · rw [if_pos h1]; exact h
  · rw [if_neg h1]
    by_cases h2 : first s.own < s.own.length
    · rw [if_pos h2]
      have hk : first s.own ≠ 0 := fun e => by
        have := first_at s.own h2
        rw [e] at this
        have := h.own
        omega
      have hl := h.ok.len
      have hz : 1024 * first s.own + Z1024.length ≤ s.B.length := by rw [Z1024_length]; omega
      refine ⟨granted_ok h.ok _ c h2 (by omega), by show (s.own.set _ c).length = 4; rw [List.length_set]; exact h.len, ?_, ?_, h.fit⟩
      · show 0 ≤ (s.own.set (first s.own) c).getD 0 0
        rw [getD_set _ _ _ _ h2, if_neg (fun e => hk e.symm)]; exact h.own
      · show ((splice s.B (1024 * first s.own) Z1024).drop A).take b.length = b
        rw [splice_far _ _ _ _ _ hz (.inl (by have := h.fit; omega))]; exact h.byt
    · rw [if_neg h2]; exact h
theorem KInv.ret {s : St} {A : Nat} {b : List Int} (h : KInv s A b) (n : Int) (hn : n ≠ 0) : KInv (ArenaPure.ret s n).1 A b := by
  unfold ArenaPure.ret
  by_cases h1 : n < 0 ∨ (s.own.length : Int) ≤ n
  · rw [if_pos h1]; exact h
  · rw [if_neg h1]
    by_cases h2 : s.own.getD n.toNat 0 < 0
    · rw [if_pos h2]; exact h
    · rw [if_neg h2]
      have hi : n.toNat < s.own.length := by omega
      refine ⟨ok_set h.ok _ (-1) hi (by decide) _ rfl h.ok.bytes, by show (s.own.set _ (-1)).length = 4; rw [List.length_set]; exact h.len, ?_, h.byt, h.fit⟩
      show 0 ≤ (s.own.set n.toNat (-1)).getD 0 0
      rw [getD_set _ _ _ _ hi, if_neg (by omega)]; exact h.own
theorem KInv.write {s : St} {A : Nat} {b : List Int} (h : KInv s A b) (at_ : Int) (l : List Int) (ha : (A : Int) + b.length ≤ at_) (hl : Bytes l) : KInv (write s at_ l).1 A b := by
  unfold ArenaPure.write
  by_cases h1 : within s at_ l.length
  · rw [if_pos h1]
    have hr := in_row h.ok h1
    exact ⟨lay_ok h.ok (by omega) hl, h.len, h.own, by show ((splice s.B at_.toNat l).drop A).take b.length = b; rw [splice_far _ _ _ _ _ (by omega) (.inl (by omega))]; exact h.byt, h.fit⟩
  · rw [if_neg h1]; exact h
theorem KInv.within {s : St} {A : Nat} {b : List Int} (h : KInv s A b) : within s A b.length := by
  have := h.fit
  unfold ArenaPure.within
  rw [h.len]
  have e : ((A : Int) / 1024).toNat = 0 := by omega
  rw [e]
  exact ⟨by omega, by omega, by omega, h.own, by omega⟩
theorem KInv.read {s : St} {A : Nat} {b : List Int} (h : KInv s A b) : readA s A b.length = (b, 0) := by
  unfold readA
  rw [if_pos h.within]
  show (got s A b.length, (0 : Int)) = _
  unfold got
  rw [Int.toNat_natCast, Int.toNat_natCast, h.byt]
def K1 : St := (grant (new 4) 1).1
theorem K1_own : K1.own = [1, -1, -1, -1] := by decide +kernel
theorem K1_ok : Ok K1 := by
  have : K1 = granted (new 4) 0 1 := rfl
  rw [this]
  exact granted_ok (new_ok 4 (by decide) (by decide)) 0 1 (by decide) (by decide)
theorem KInv.start (A : Nat) (b : List Int) (hA : A < 400) (hb : b.length ≤ 500) (hB : Bytes b) : (ArenaPure.write K1 A b) = ((ArenaPure.write K1 A b).1, 0) ∧ KInv (ArenaPure.write K1 A b).1 A b := by
  have W : ArenaPure.within K1 A b.length := by
    unfold ArenaPure.within
    rw [K1_own]
    have e : ((A : Int) / 1024).toNat = 0 := by omega
    rw [e]
    exact ⟨by omega, by omega, by simp; omega, by decide, by omega⟩
  have hr := in_row K1_ok W
  unfold ArenaPure.write
  rw [if_pos W]
  refine ⟨rfl, lay_ok K1_ok (by omega) hB, by show K1.own.length = 4; rw [K1_own]; rfl, by show 0 ≤ K1.own.getD 0 0; rw [K1_own]; decide, ?_, by omega⟩
  show ((splice K1.B ((A : Int)).toNat b).drop A).take b.length = b
  rw [Int.toNat_natCast]
  apply List.ext_getElem?
  intro i
  rw [List.getElem?_take]
  by_cases hi : i < b.length
  · rw [if_pos hi, List.getElem?_drop, splice_get _ _ _ (by omega), if_pos (by omega), Nat.add_sub_cancel_left]
  · rw [if_neg hi, List.getElem?_eq_none (by omega)]
end Go.Proofs.Ytmffdlebahdihaa.Arena

/- Both arenas at once, the program's and the reference's; the walks of chapter 05's tells and Same. -/
namespace Go.Proofs.Ytmffdlebahdihaa.Arena
open Go Go.RowKit Go.Proofs.Ytmffdlebahdihaa.Mem Go.Proofs.Ytmffdlebahdihaa.CodecPure Go.Proofs.Ytmffdlebahdihaa.ArenaPure Go.Proofs.Ytmffdlebahdihaa.Codec
set_option linter.unusedVariables false
set_option maxRecDepth 100000
/-- the program's arena as s says and the reference's as t says, in blocks from B on, apart from one another -/
structure Two (B : Nat) (w0 w : World) (a : Ar) (r : Ra) (s t : St) : Prop where
  here : Here B w0 w a s
  ref : RLies w r t
  low : B ≤ r.g ∧ B ≤ r.o ∧ B ≤ r.b
  apart : ∀ x, x = r.g ∨ x = r.o ∨ x = r.b → x ≠ a.g ∧ x ≠ a.ps ∧ x ∉ a.pb
variable {B : Nat} {w0 w w' : World} {a : Ar} {r : Ra} {s s' t t' : St}
theorem Two.opA (h : Two B w0 w a r s t) (hl : Lies w' a s') (hc : Chg (· ∈ a.pb) w w') : Two B w0 w' a r s' t :=
  ⟨h.here.now hl hc, h.ref.chg hc (h.apart _ (.inl rfl)).2.2 (h.apart _ (.inr (.inl rfl))).2.2 (h.apart _ (.inr (.inr rfl))).2.2, h.low, h.apart⟩
theorem Two.opR (h : Two B w0 w a r s t) (hl : RLies w' r t') (hc : Chg r.has w w') : Two B w0 w' a r s t' := by
  have k : ∀ x, r.has x → x ≠ a.g ∧ x ≠ a.ps ∧ x ∉ a.pb := fun x hx => h.apart x (.inr hx)
  exact ⟨⟨h.here.lies.chg hc (fun e => (k _ e).1 rfl) (fun e => (k _ e).2.1 rfl) fun b hb e => (k _ e).2.2 hb, h.here.chg.trans (hc.mono fun i _ hi => by rcases hi with e | e <;> rw [e] <;> have := h.low <;> omega), h.here.low⟩, hl, h.low, h.apart⟩
theorem Two.fresh (h : Two B w0 w a r s t) (hc : Chg (fun _ => False) w w') : Two B w0 w' a r s t :=
  ⟨h.here.fresh hc, h.ref.chg hc id id id, h.low, h.apart⟩
/-- the blocks that either writes -/
def T2 (a : Ar) (r : Ra) (x : Nat) : Prop := x ∈ a.pb ∨ r.has x
theorem Two.not2 (h : Two B w0 w a r s t) (x : Nat) (hx : w.heap.size ≤ x) : ¬ T2 a r x := fun e => by
  rcases e with e | e | e
  · have := h.here.pb_lt x e; omega
  · have := h.ref.o_lt; omega
  · have := h.ref.b_lt; omega
theorem Two.grant (h : Two B w0 w a r s t) (c : Int) : Calls Try.prog 52 #[(.pointer (some ⟨a.g, 0, none⟩)), (.int .i64 c)] w fun e w' => e = .returned (.tuple #[.int .i64 (ArenaPure.grant s c).2.1, .int .i64 (ArenaPure.grant s c).2.2]) ∧ Two B w0 w' a r (ArenaPure.grant s c).1 t ∧ Chg (T2 a r) w w' :=
  (grant_calls h.here.lies c).mono fun _ _ ⟨e, h1, h2⟩ => ⟨e, h.opA h1 h2, h2.mono fun _ _ => Or.inl⟩
theorem Two.rgrant (h : Two B w0 w a r s t) (c : Int) : Calls Try.prog 91 #[(.pointer (some ⟨r.g, 0, none⟩)), (.int .i64 c)] w fun e w' => e = .returned (.tuple #[.int .i64 (ArenaPure.grant t c).2.1, .int .i64 (ArenaPure.grant t c).2.2]) ∧ Two B w0 w' a r s (ArenaPure.grant t c).1 ∧ Chg (T2 a r) w w' :=
  (refgrant_calls h.ref c).mono fun _ _ ⟨e, h1, h2⟩ => ⟨e, h.opR h1 h2, h2.mono fun _ _ => Or.inr⟩
theorem Two.ret (h : Two B w0 w a r s t) (n : Int) : Calls Try.prog 50 #[(.pointer (some ⟨a.g, 0, none⟩)), (.int .i64 n)] w fun e w' => e = .returned (.int .i64 (ArenaPure.ret s n).2) ∧ Two B w0 w' a r (ArenaPure.ret s n).1 t ∧ Chg (T2 a r) w w' :=
  (return_calls h.here.lies n).mono fun _ _ ⟨e, h1, h2⟩ => ⟨e, h.opA h1 h2, h2.mono fun _ _ => Or.inl⟩
theorem Two.write (h : Two B w0 w a r s t) (at_ : Int) (A : Option Addr) (c : Nat) (l : List Int) (hs : Sl w .u8 A l) (hb : Bytes l) (hm : l.length ≤ 1000000000) (hx : -9223372036854775808 ≤ at_ ∧ at_ ≤ 9223372036854775807) :
    Calls Try.prog 22 #[(.pointer (some ⟨a.g, 0, none⟩)), (.int .i64 at_), .slice A l.length c] w fun e w' => e = .returned (.int .i64 (ArenaPure.write s at_ l).2) ∧ Two B w0 w' a r (ArenaPure.write s at_ l).1 t ∧ Chg (T2 a r) w w' :=
  (write_calls h.here.lies at_ A c l hs hb hm hx).mono fun _ _ ⟨e, h1, h2⟩ => ⟨e, h.opA h1 h2, h2.mono fun _ _ => Or.inl⟩
theorem Two.rwrite (h : Two B w0 w a r s t) (at_ : Int) (A : Option Addr) (c : Nat) (l : List Int) (hs : Sl w .u8 A l) (hb : Bytes l) (hf : l ≠ [] → ∀ ad, A = some ad → ¬ r.has ad.block) (hm : l.length ≤ 1000000000) (hx : -9223372036854775808 ≤ at_ ∧ at_ ≤ 9223372036854775807) :
    Calls Try.prog 92 #[(.pointer (some ⟨r.g, 0, none⟩)), (.int .i64 at_), .slice A l.length c] w fun e w' => e = .returned (.int .i64 (ArenaPure.write t at_ l).2) ∧ Two B w0 w' a r s (ArenaPure.write t at_ l).1 ∧ Chg (T2 a r) w w' :=
  (refwrite_calls h.ref at_ A c l hs hb hf hm hx).mono fun _ _ ⟨e, h1, h2⟩ => ⟨e, h.opR h1 h2, h2.mono fun _ _ => Or.inr⟩
theorem Two.setnumber (h : Two B w0 w a r s t) (at_ n v : Int) (hx : -9223372036854775808 ≤ at_ ∧ at_ ≤ 9223372036854775807) (h0 : 0 ≤ v) (h1 : v < 18446744073709551616) :
    Calls Try.prog 78 #[(.pointer (some ⟨a.g, 0, none⟩)), (.int .i64 at_), (.int .i64 n), (.int .u64 v)] w fun e w' => e = .returned (.int .i64 (setNumber s at_ n v).2) ∧ Two B w0 w' a r (setNumber s at_ n v).1 t ∧ Chg (T2 a r) w w' :=
  (setnumber_calls h.here.lies at_ n v hx h0 h1).mono fun _ _ ⟨e, h1, h2⟩ => ⟨e, h.opA h1 h2, h2.mono fun _ _ => Or.inl⟩
theorem Two.rsetnumber (h : Two B w0 w a r s t) (at_ n v : Int) (hx : -9223372036854775808 ≤ at_ ∧ at_ ≤ 9223372036854775807) (h0 : 0 ≤ v) (h1 : v < 18446744073709551616) :
    Calls Try.prog 98 #[(.pointer (some ⟨r.g, 0, none⟩)), (.int .i64 at_), (.int .i64 n), (.int .u64 v)] w fun e w' => e = .returned (.int .i64 (setNumber t at_ n v).2) ∧ Two B w0 w' a r s (setNumber t at_ n v).1 ∧ Chg (T2 a r) w w' :=
  (refsetnumber_calls h.ref at_ n v hx h0 h1).mono fun _ _ ⟨e, h1, h2⟩ => ⟨e, h.opR h1 h2, h2.mono fun _ _ => Or.inr⟩
theorem Two.setplace (h : Two B w0 w a r s t) (at_ p : Int) (hx : -9223372036854775808 ≤ at_ ∧ at_ ≤ 9223372036854775807) (hp : -9223372036854775808 ≤ p ∧ p ≤ 9223372036854775807) :
    Calls Try.prog 77 #[(.pointer (some ⟨a.g, 0, none⟩)), (.int .i64 at_), (.int .i64 p)] w fun e w' => e = .returned (.int .i64 (setPlace s at_ p).2) ∧ Two B w0 w' a r (setPlace s at_ p).1 t ∧ Chg (T2 a r) w w' :=
  (setplace_calls h.here.lies at_ p hx hp).mono fun _ _ ⟨e, h1, h2⟩ => ⟨e, h.opA h1 h2, h2.mono fun _ _ => Or.inl⟩
theorem Two.rsetplace (h : Two B w0 w a r s t) (at_ p : Int) (hx : -9223372036854775808 ≤ at_ ∧ at_ ≤ 9223372036854775807) (hp : -9223372036854775808 ≤ p ∧ p ≤ 9223372036854775807) :
    Calls Try.prog 100 #[(.pointer (some ⟨r.g, 0, none⟩)), (.int .i64 at_), (.int .i64 p)] w fun e w' => e = .returned (.int .i64 (setPlace t at_ p).2) ∧ Two B w0 w' a r s (setPlace t at_ p).1 ∧ Chg (T2 a r) w w' :=
  (refsetplace_calls h.ref at_ p hx hp).mono fun _ _ ⟨e, h1, h2⟩ => ⟨e, h.opR h1 h2, h2.mono fun _ _ => Or.inr⟩
/-- an answer, and both arenas as they were -/
def TwoB (B : Nat) (w0 w : World) (a : Ar) (r : Ra) (s t : St) (v : Value) (e : Ending) (w' : World) : Prop := e = .returned v ∧ Two B w0 w' a r s t ∧ Chg (fun _ => False) w w'
theorem free_le (s : St) (hs : Ok s) : free s ≤ 32 := Nat.le_trans List.countP_le_length hs.high
end Go.Proofs.Ytmffdlebahdihaa.Arena

