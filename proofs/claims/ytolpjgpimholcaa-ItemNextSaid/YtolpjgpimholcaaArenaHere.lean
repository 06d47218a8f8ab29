/- An arena of the call's own, as its functions leave it; and the walk of chapter 05's works. -/
import Derived.Test.YtolpjgpimholcaaArena4
import Derived.OpenShut
import Derived.Lib.SlBytesConst
namespace Go.Proofs.Ytolpjgpimholcaa.Arena
open Go Go.RowKit Go.Proofs.Ytolpjgpimholcaa.Mem Go.Proofs.Ytolpjgpimholcaa.CodecPure Go.Proofs.Ytolpjgpimholcaa.ArenaPure Go.Proofs.Ytolpjgpimholcaa.Codec
set_option linter.unusedVariables false
set_option maxRecDepth 100000
/-- the arena a lies in blocks from B on, as s says; nothing else that was there at w0 has turned, below B -/
structure Here (B : Nat) (w0 w : World) (a : Ar) (s : St) : Prop where
  lies : Lies w a s
  chg : Chg (fun b => B ≤ b) w0 w
  low : B ≤ a.g ∧ B ≤ a.ps ∧ ∀ b ∈ a.pb, B ≤ b
variable {B : Nat} {w0 w w' : World} {a : Ar} {s s' : St}
theorem Here.now (h : Here B w0 w a s) (hl : Lies w' a s') (hc : Chg (· ∈ a.pb) w w') : Here B w0 w' a s' :=
  ⟨hl, h.chg.trans (hc.mono fun b _ hb => h.low.2.2 b hb), h.low⟩
theorem Here.fresh (h : Here B w0 w a s) (hc : Chg (fun _ => False) w w') : Here B w0 w' a s :=
  ⟨h.lies.chg hc id id fun _ _ => id, h.chg.trans (hc.mono fun _ _ h => h.elim), h.low⟩
theorem Here.alloc (h : Here B w0 w a s) (o : Obj) : Here B w0 (w.alloc o) a s := h.fresh (Chg.alloc _ _ _)
theorem Here.below (h : Here B w0 w a s) (hB : B ≤ w0.heap.size) : Below B w0 w := h.chg.below hB fun _ h => h
theorem Here.grant (h : Here B w0 w a s) (c : Int) : Calls Try.prog 59 #[(.pointer (some ⟨a.g, 0, none⟩)), (.int .i64 c)] w fun e w' => e = .returned (.tuple #[.int .i64 (grant s c).2.1, .int .i64 (grant s c).2.2]) ∧ Here B w0 w' a (grant s c).1 :=
  (grant_calls h.lies c).mono fun _ _ ⟨e, h1, h2⟩ => ⟨e, h.now h1 h2⟩
theorem Here.write (h : Here B w0 w a s) (at_ : Int) (A : Option Addr) (c : Nat) (l : List Int) (hs : Sl w .u8 A l) (hb : Bytes l) (hm : l.length ≤ 1000000000) (hx : -9223372036854775808 ≤ at_ ∧ at_ ≤ 9223372036854775807) :
    Calls Try.prog 61 #[(.pointer (some ⟨a.g, 0, none⟩)), (.int .i64 at_), .slice A l.length c] w fun e w' => e = .returned (.int .i64 (write s at_ l).2) ∧ Here B w0 w' a (write s at_ l).1 :=
  (write_calls h.lies at_ A c l hs hb hm hx).mono fun _ _ ⟨e, h1, h2⟩ => ⟨e, h.now h1 h2⟩
theorem Here.grantC (h : Here B w0 w a s) (c : Int) : Calls Try.prog 59 #[(.pointer (some ⟨a.g, 0, none⟩)), (.int .i64 c)] w fun e w' => e = .returned (.tuple #[.int .i64 (ArenaPure.grant s c).2.1, .int .i64 (ArenaPure.grant s c).2.2]) ∧ Here B w0 w' a (ArenaPure.grant s c).1 ∧ Chg (· ∈ a.pb) w w' :=
  (grant_calls h.lies c).mono fun _ _ ⟨e, h1, h2⟩ => ⟨e, h.now h1 h2, h2⟩
theorem Here.writeC (h : Here B w0 w a s) (at_ : Int) (A : Option Addr) (c : Nat) (l : List Int) (hs : Sl w .u8 A l) (hb : Bytes l) (hm : l.length ≤ 1000000000) (hx : -9223372036854775808 ≤ at_ ∧ at_ ≤ 9223372036854775807) :
    Calls Try.prog 61 #[(.pointer (some ⟨a.g, 0, none⟩)), (.int .i64 at_), .slice A l.length c] w fun e w' => e = .returned (.int .i64 (ArenaPure.write s at_ l).2) ∧ Here B w0 w' a (ArenaPure.write s at_ l).1 ∧ Chg (· ∈ a.pb) w w' :=
  (write_calls h.lies at_ A c l hs hb hm hx).mono fun _ _ ⟨e, h1, h2⟩ => ⟨e, h.now h1 h2, h2⟩
theorem Here.readC (h : Here B w0 w a s) (at_ n : Int) (hx : -9223372036854775808 ≤ at_ ∧ at_ ≤ 9223372036854775807) :
    Calls Try.prog 63 #[(.pointer (some ⟨a.g, 0, none⟩)), (.int .i64 at_), (.int .i64 n)] w fun e w' => ∃ A c, e = .returned (.tuple #[.slice A (readA s at_ n).1.length c, .int .i64 (readA s at_ n).2]) ∧ Own w' w.heap.size 5 .u8 (.slice A (readA s at_ n).1.length c) (readA s at_ n).1 ∧ Here B w0 w' a s ∧ Chg (fun _ => False) w w' :=
  (read_calls h.lies at_ n hx).mono fun _ _ ⟨A, c, e, h1, h2⟩ => ⟨A, c, e, h1, h.fresh h2, h2⟩
theorem Here.pb_lt (h : Here B w0 w a s) : ∀ b ∈ a.pb, b < w.heap.size := fun b hb => by
  obtain ⟨i, hi, e⟩ := h.lies.of_mem hb
  rw [← e]
  exact blk_lt (h.lies.page i hi)
theorem Own.other {w w' : World} {base : Nat} {e : TypeId} {k : IntKind} {v : Value} {l : List Int} (h : Own w base e k v l) (hp : ∀ b ∈ a.pb, b < base) (hc : Chg (· ∈ a.pb) w w') : Own w' base e k v l :=
  Own.chg h hc fun g e hb => by
    have := (World.ownsRow.lt h g e).1
    have := hp g hb
    omega
/-- two answers: bytes of the call's own, and an error -/
def RdH (B : Nat) (w0 w : World) (a : Ar) (s : St) (l : List Int) (err : Int) (e : Ending) (w' : World) : Prop :=
  ∃ A c, e = .returned (.tuple #[.slice A l.length c, .int .i64 err]) ∧ Own w' w.heap.size 5 .u8 (.slice A l.length c) l ∧ Here B w0 w' a s
theorem Here.read (h : Here B w0 w a s) (at_ n : Int) (hx : -9223372036854775808 ≤ at_ ∧ at_ ≤ 9223372036854775807) :
    Calls Try.prog 63 #[(.pointer (some ⟨a.g, 0, none⟩)), (.int .i64 at_), (.int .i64 n)] w (RdH B w0 w a s (readA s at_ n).1 (readA s at_ n).2) :=
  (read_calls h.lies at_ n hx).mono fun _ _ ⟨A, c, e, h1, h2⟩ => ⟨A, c, e, h1, h.fresh h2⟩
theorem Here.new (w : World) (n : Int) (h1 : 1 ≤ n) (h2 : n ≤ 32) : Calls Try.prog 57 #[(.int .i64 n)] w fun e w' => ∃ a : Ar, e = .returned (.tuple #[.pointer (some ⟨a.g, 0, none⟩), .int .i64 0]) ∧ Here w.heap.size w w' a (new n.toNat) :=
  (new_calls n w).mono fun e w' h => by
    rcases h with ⟨h, _⟩ | ⟨_, _, a, e1, hl, hc, h3, h4, h5, _⟩
    · omega
    · exact ⟨a, e1, hl, hc.mono fun _ _ h => h.elim, h3, h4, h5⟩
theorem sl_lit (w : World) (k : IntKind) (l : List Int) (e : TypeId) (fr : Nat × Nat) : Sl (w.alloc (.cells (nums k l).toArray e fr)) k (some ⟨w.heap.size, 0, none⟩) l := fun i hi => by
  refine ⟨_, rfl, ?_⟩
  rw [add_plain, blk_cell (heap_alloc_at w _), Nat.zero_add, List.getElem?_toArray]
  exact nums_get k l i hi
/-! ### works -/
def S0 : St := new 2
def S1 : St := (grant S0 3).1
def S2 : St := (grant S1 3).1
def S3 : St := (write S2 5 [97, 98, 99]).1
def S4 : St := (ArenaPure.ret S3 0).1
def S5 : St := (grant S4 1).1
theorem g1 : grant S0 3 = (S1, 0, 0) := Prod.ext rfl (by decide +kernel)
theorem g2 : grant S1 3 = (S2, 1, 0) := Prod.ext rfl (by decide +kernel)
theorem g3 : grant S2 0 = (S2, 0, 2) := Prod.ext (by unfold grant; rw [if_neg (by decide), if_neg (by decide +kernel)]) (by decide +kernel)
theorem g4 : write S2 5 [97, 98, 99] = (S3, 0) := Prod.ext rfl (by decide +kernel)
theorem g5 : ArenaPure.ret S3 0 = (S4, 0) := Prod.ext rfl (by decide +kernel)
theorem g6 : readA S4 0 1 = ([], 1) := by decide +kernel
theorem g7 : grant S4 1 = (S5, 0, 0) := Prod.ext rfl (by decide +kernel)
theorem g8 : readA S5 4 5 = ([0, 0, 0, 0, 0], 0) := by decide +kernel
theorem g9 : ArenaPure.ret S5 2 = (S5, 1) := by unfold ArenaPure.ret; rw [if_pos (by decide +kernel)]
end Go.Proofs.Ytolpjgpimholcaa.Arena
