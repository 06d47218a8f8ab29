import Derived.Test.YtolpjgpimholcaaGe
import Derived.Test.YtolpjgpimholcaaGa
import Derived.Deep.Slices
import Derived.ChangeSlices
import Derived.SliceStrings
import Derived.OpenShut
import Derived.Laws.BitsLemmas
import Derived.RowKit
import Derived.Test.YtolpjgpimholcaaChecked
import Derived.WalkKit
import Derived.WalkLawsBesides
import Derived.Lib.Hide
import Derived.Deep.LoopGhost
import Derived.Test.YtolpjgpimholcaaGg
import Derived.Test.YtolpjgpimholcaaGf
/- Chapter 08 in plain words: an item stays what it is, whatever turns beside its chunks. No program in sight. -/
namespace Go.Proofs.Ytolpjgpimholcaa.ArenaPure
open Go Go.RowKit Go.Proofs.Ytolpjgpimholcaa.Mem Go.Proofs.Ytolpjgpimholcaa.CodecPure Go.Proofs.Ytolpjgpimholcaa.Codec Go.Proofs.Ytolpjgpimholcaa.Arena Go.Proofs.Ytolpjgpimholcaa.NeedPure
set_option linter.unusedVariables false
set_option maxRecDepth 100000
variable {s t u : St} {tc : Int} {P key val : List Int} {ex fl cas : Int} {S : Nat → Prop}
theorem number_got {s t : St} {x n : Int} (ho : t.own = s.own) (hg : got t x n = got s x n) : number t x n = number s x n := by
  unfold number
  rw [hg]
  by_cases h : within s x n
  · rw [if_pos h, if_pos ((within_own ho x n).2 h)]
  · rw [if_neg h, if_neg fun q => h ((within_own ho x n).1 q)]
theorem ItemAt.at_mem (h : ItemAt t tc P key val ex fl cas) {i : Nat} (hi : i < P.length) : P.getD i 0 ∈ P := by rw [List.getD_eq_getElem?_getD, List.getElem?_eq_getElem hi]; exact List.getElem_mem hi
theorem ItemAt.frame (h : ItemAt t tc P key val ex fl cas) (hL : Lay t u S) (hS : ∀ p ∈ P, ∀ i : Nat, p ≤ i → (i : Int) < p + tc → ¬ S i) : ItemAt u tc P key val ex fl cas := by
  have g : ∀ x n : Int, 0 ≤ x → (∃ p ∈ P, p ≤ x ∧ x + n ≤ p + tc) → got u x n = got t x n := fun x n h0 ⟨p, hp, h1, h2⟩ => hL.got x n h0 fun i h3 h4 => hS p hp i (by omega) (by omega)
  have hp0 := h.at_mem h.pos
  have hsz := h.size
  have w0 := h.inn _ hp0
  have x0 : 0 ≤ P.getD 0 0 := w0.2.1
  have hh : within t (P.getD 0 0) 40 := by
    have := within_part w0 0 40 (by decide) (by decide) (by omega) (by decide)
    rwa [Int.add_zero] at this
  have hh' := hL.hdr hh
  have f : ∀ f v : Int, 0 ≤ f → f ≤ 11 → f ≠ 4 → itemGet t (P.getD 0 0) f = (v, 0) → itemGet u (P.getD 0 0) f = (v, 0) := fun f v h0 h1 h4 hg => by
    obtain ⟨g1, g2⟩ := got_of_itemGet h.ok hh h0 h1 h4 hg
    have := fat_in h0 h1
    refine itemGet_of hL.ok hh' h0 h1 h4 g2 ?_
    rw [g _ _ (by omega) ⟨_, hp0, by omega, by omega⟩]
    exact g1
  refine ⟨hL.ok, h.pos, h.size, fun p hp => (hL.within p tc).2 (h.inn p hp), h.most, h.lens, h.bytes, f 5 _ (by decide) (by decide) (by decide) h.fex, f 6 _ (by decide) (by decide) (by decide) h.ffl,
    f 7 _ (by decide) (by decide) (by decide) h.fvl, f 8 _ (by decide) (by decide) (by decide) h.fkl, ?_, ?_, fun i hi => ?_, fun i hi => ?_, h.all⟩
  · rw [number_got hL.own (g _ _ (by omega) ⟨_, hp0, by omega, by omega⟩)]; exact h.fcas
  · rw [g _ _ (by omega) ⟨_, hp0, by omega, by omega⟩]; exact h.k
  · have hpi := h.at_mem hi
    have xi : 0 ≤ P.getD i 0 := (h.inn _ hpi).2.1
    rw [← h.chain i hi]
    have : ∃ o : Int, 0 ≤ o ∧ o ≤ 12 ∧ linkP P i = P.getD i 0 + o := by
      unfold linkP
      by_cases e : i = 0
      · subst e; exact ⟨12, by decide, by decide, if_pos rfl⟩
      · exact ⟨0, by decide, by decide, by rw [if_neg e]; omega⟩
    obtain ⟨o, o1, o2, o3⟩ := this
    rw [o3]
    exact hL.place _ (by omega) fun j h3 h4 => hS _ hpi j (by omega) (by omega)
  · have hpi := h.at_mem hi
    have xi : 0 ≤ P.getD i 0 := (h.inn _ hpi).2.1
    obtain ⟨o, o1, o2, o3, o4⟩ := h.part_in hi
    rw [← h.v i hi, o2]
    exact g _ _ (by omega) ⟨_, hpi, by omega, by omega⟩
theorem ItemK.lay (hk : ItemK s t tc P key val ex fl cas P.length) : Lay s t (fun i => ∃ p ∈ P, p ≤ i ∧ (i : Int) < p + tc) :=
  ⟨hk.ok, hk.own, fun i hi => hk.out i fun p hp => by
    rcases Int.lt_or_le i p with q | q
    · exact .inl q
    · right
      rcases Int.lt_or_le i (p + tc) with q2 | q2
      · exact absurd ⟨p, hp, q, q2⟩ hi
      · exact q2⟩
end Go.Proofs.Ytolpjgpimholcaa.ArenaPure

/- Arguments of chapter 08 and 10 that came in: a struct of texts and numbers, a row of texts. No program in sight. -/
namespace Go.Proofs.Ytolpjgpimholcaa.Mem
open Go Go.RowKit Go.ChangeShapes Go.WideShapes
set_option linter.unusedVariables false
set_option maxRecDepth 100000
/-- an item that came in -/
structure ItemArg (K V : ByteArray) (fl ex cas : Int) : Prop where
  k : K.size ≤ 9223372036854775807
  v : V.size ≤ 9223372036854775807
  fl : (Lit.int .u32 fl).wf = true
  ex : (Lit.int .u32 ex).wf = true
  cas : (Lit.int .u64 cas).wf = true
/-- a row of texts that came in -/
structure StrRow (w : World) (A : Option Addr) (c : Nat) (l : List ByteArray) : Prop where
  cap : l.length ≤ c
  most : c ≤ maxLen
  cell : ∀ i, i < l.length → ∃ ad, A = some ad ∧ w.cell? (ad.add i) = some (.string (l.getD i ByteArray.empty))
  size : ∀ i, i < l.length → (l.getD i ByteArray.empty).size ≤ 9223372036854775807
theorem StrRow.chg {w w' : World} {A : Option Addr} {c : Nat} {l : List ByteArray} {B : Nat} (h : StrRow w A c l) (hc : Chg (fun b => B ≤ b) w w') (hB : w.heap.size ≤ B) : StrRow w' A c l where
  cap := h.cap
  most := h.most
  cell i hi := by
    obtain ⟨ad, e, c⟩ := h.cell i hi
    refine ⟨ad, e, hc.cell c ?_⟩
    have := World.block_lt_of_cell? w _ c
    omega
  size := h.size
section
variable {H : Type} {enc : TypeId × Value → H} {P : Program} {w : World} {base : Nat} {spare : Nat → Bool} {held : Bool}
theorem open_item {r : Reach} {b0 : Nat} {t : TypeId} {v : Value} {d : DataW H} {ps : List MemPlace} {f0 f1 f2 f3 f4 : Field} (ht : P.underlying t = some (.struct #[f0, f1, f2, f3, f4]))
    (o : f0.offset = 0 ∧ f1.offset = 1 ∧ f2.offset = 2 ∧ f3.offset = 3 ∧ f4.offset = 4) (cc : P.cellsOf f0.type = 1 ∧ P.cellsOf f1.type = 1 ∧ P.cellsOf f2.type = 1 ∧ P.cellsOf f3.type = 1 ∧ P.cellsOf f4.type = 1)
    (u0 : P.underlying f0.type = some .string) (u1 : P.underlying f1.type = some .string) (u2 : P.underlying f2.type = some (.int .u32)) (u3 : P.underlying f3.type = some (.int .u32)) (u4 : P.underlying f4.type = some (.int .u64)) (ce : P.cellsOf t = 5)
    (hval : Value.okWide P w r b0 t v) (hd : DataW.Trod enc P w base spare held t v d ps) :
    ∃ (K V : ByteArray) (fl ex cas : Int), v = .agg #[.string K, .string V, .int .u32 fl, .int .u32 ex, .int .u64 cas] ∧ ItemArg K V fl ex cas := by
  obtain ⟨cs, rfl, hcs⟩ := okWide_struct ht hval
  obtain ⟨fuel, hf⟩ := hd
  obtain ⟨xs, k, hk, _, _, hxl, hg⟩ := DataW.trod_struct ht hf
  rw [ce] at hcs
  obtain ⟨v0, v1, v2, v3, v4, rfl⟩ : ∃ v0 v1 v2 v3 v4, cs = #[v0, v1, v2, v3, v4] := by
    obtain ⟨l⟩ := cs
    match l, hcs with
    | [v0, v1, v2, v3, v4], _ => exact ⟨v0, v1, v2, v3, v4, rfl⟩
  match xs, hxl with
  | [y0, y1, y2, y3, y4], _ =>
    obtain ⟨o0, o1, o2, o3, o4⟩ := o
    obtain ⟨c0, c1, c2, c3, c4⟩ := cc
    have g0 := hg 0 f0 rfl
    have g1 := hg 1 f1 rfl
    have g2 := hg 2 f2 rfl
    have g3 := hg 3 f3 rfl
    have g4 := hg 4 f4 rfl
    simp [o0, o1, o2, o3, o4, c0, c1, c2, c3, c4, Value.cells] at g0 g1 g2 g3 g4
    obtain ⟨K, e0, _, w0⟩ := DataW.trod_string u0 g0
    obtain ⟨V, e1, _, w1⟩ := DataW.trod_string u1 g1
    obtain ⟨z2, e2, _, w2⟩ := DataW.trod_int u2 g2
    obtain ⟨z3, e3, _, w3⟩ := DataW.trod_int u3 g3
    obtain ⟨z4, e4, _, w4⟩ := DataW.trod_int u4 g4
    simp at e0 e1 e2 e3 e4
    subst e0 e1 e2 e3 e4
    exact ⟨K, V, z2, z3, z4, rfl, ⟨by unfold maxLen at w0; omega, by unfold maxLen at w1; omega, w2, w3, w4⟩⟩
theorem open_strrow {t e : TypeId} {fuel len cap : Nat} {A : Option Addr} {x : DataW H × List MemPlace} (ht : P.underlying t = some (.slice e)) (he : P.underlying e = some .string) (hc : P.cellsOf e = 1)
    (h : DataW.trod enc P w base spare held fuel t [.slice A len cap] = some x) : ∃ l : List ByteArray, l.length = len ∧ StrRow w A cap l := by
  rcases open_strings ht he hc h with ⟨h0, _⟩ | ⟨a, len', cap', ss, hcs, hb, hl, hm, hss, _, hcell, hsz⟩
  · simp at h0
    obtain ⟨rfl, rfl, rfl⟩ := h0
    exact ⟨[], rfl, ⟨Nat.le_refl _, by unfold maxLen; omega, fun i hi => by simp at hi, fun i hi => by simp at hi⟩⟩
  · simp at hcs
    obtain ⟨rfl, rfl, rfl⟩ := hcs
    have hlm : len ≤ ss.length := by rw [hss]; split <;> omega
    have hlt : (ss.take len).length = len := by rw [List.length_take]; omega
    have hgd : ∀ i, i < len → (ss.take len).getD i ByteArray.empty = ss.getD i ByteArray.empty := fun i hi => by
      rw [List.getD_eq_getElem?_getD, List.getElem?_take, if_pos hi, List.getD_eq_getElem?_getD]
    refine ⟨ss.take len, hlt, ⟨by omega, hm, fun i hi => ⟨a, rfl, ?_⟩, fun i hi => ?_⟩⟩
    · rw [hgd i (by omega)]; exact hcell i (by omega)
    · rw [hgd i (by omega)]
      have hi' : i < ss.length := by omega
      have := hsz (ss.getD i ByteArray.empty) (by rw [List.getD_eq_getElem?_getD, List.getElem?_eq_getElem hi']; exact List.getElem_mem hi')
      unfold maxLen at this
      omega
end
end Go.Proofs.Ytolpjgpimholcaa.Mem

/- Chapter 04 in plain words: the number of a text, and its bucket. No program in sight. -/
namespace Go.Proofs.Ytolpjgpimholcaa.Fnv
open Go Go.RowKit Go.Proofs.Ytolpjgpimholcaa.Mem
set_option linter.unusedVariables false
/-- one byte more -/
def stp (x c : Int) : Int := ((Go.bits .xor .u32 x c) * 16777619) % 4294967296
theorem stp_range (x c : Int) : 0 ≤ stp x c ∧ stp x c < 4294967296 := by unfold stp; omega
def numL (x : Int) (l : List Int) : Int := l.foldl stp x
def num (s : ByteArray) : Int := numL 2166136261 (bs s)
theorem numL_range (l : List Int) : ∀ x, 0 ≤ x → x < 4294967296 → 0 ≤ numL x l ∧ numL x l < 4294967296 := by
  induction l with
  | nil => intro x h0 h1; exact ⟨h0, h1⟩
  | cons c l ih => intro x h0 h1; exact ih _ (stp_range x c).1 (stp_range x c).2
theorem num_range (s : ByteArray) : 0 ≤ num s ∧ num s < 4294967296 := numL_range _ _ (by decide) (by decide)
theorem numL_take (x : Int) (l : List Int) (i : Nat) (hi : i < l.length) : numL x (l.take (i + 1)) = stp (numL x (l.take i)) (l.getD i 0) := by
  unfold numL
  rw [List.take_add_one, List.getElem?_eq_getElem hi, List.foldl_append, List.getD_eq_getElem?_getD, List.getElem?_eq_getElem hi]
  rfl
def Pow (n : Int) : Prop := n = 1 ∨ n = 2 ∨ n = 4 ∨ n = 8 ∨ n = 16 ∨ n = 32 ∨ n = 64
instance (n : Int) : Decidable (Pow n) := by unfold Pow; infer_instance
def bucketP (x n : Int) : Int × Int := if Pow n then (x % n, 0) else (0, 1)
theorem i64_wraps (n : Int) (h0 : 0 ≤ n) (h1 : n < 2 ^ 40) : IntKind.i64.wrap n = n := by rw [IntKind.wrap_i64]; omega
theorem u32_wraps (n : Int) (h0 : 0 ≤ n) (h1 : n < 2 ^ 32) : IntKind.u32.wrap n = n := by rw [IntKind.wrap_u32]; omega
theorem and_low (x : Int) (h0 : 0 ≤ x) (h1 : x < 4294967296) (n : Int) (hn : Pow n) : Go.bits .and .i64 x (n - 1) = x % n := by
  have key : ∀ i : Nat, i ≤ 6 → Go.bits .and .i64 x ((2 : Int) ^ i - 1) = x % 2 ^ i := fun i hi => bits_mask .i64 40 (by decide) i64_wraps i (by omega) x h0 (by omega)
  rcases hn with rfl | rfl | rfl | rfl | rfl | rfl | rfl
  · exact key 0 (by decide)
  · exact key 1 (by decide)
  · exact key 2 (by decide)
  · exact key 3 (by decide)
  · exact key 4 (by decide)
  · exact key 5 (by decide)
  · exact key 6 (by decide)
/-- which numbers are powers of two, up to sixty-four -/
theorem pow_fin : ∀ m : Fin 65, 1 ≤ m.val → (Go.bits .and .i64 (m.val : Int) ((m.val : Int) - 1) = 0 ↔ (m.val = 1 ∨ m.val = 2 ∨ m.val = 4 ∨ m.val = 8 ∨ m.val = 16 ∨ m.val = 32 ∨ m.val = 64)) := by decide +kernel
theorem pow_iff (n : Int) (h1 : 1 ≤ n) (h2 : n ≤ 64) : Go.bits .and .i64 n (n - 1) = 0 ↔ Pow n := by
  obtain ⟨m, rfl⟩ := Int.eq_ofNat_of_zero_le (show 0 ≤ n by omega)
  have := pow_fin ⟨m, by omega⟩ (by show 1 ≤ m; omega)
  simp only at this
  rw [this]
  unfold Pow
  omega
theorem Pow.range {n : Int} (h : Pow n) : 1 ≤ n ∧ n ≤ 64 := by unfold Pow at h; omega
/-- may a byte be in a key? -/
def kb (x : Int) : Bool := decide (33 ≤ x) && decide (x ≤ 126)
def keyOk (l : List Int) : Bool := decide (1 ≤ l.length) && decide (l.length ≤ 32) && l.all kb
theorem all_take (l : List Int) (i : Nat) (hi : i < l.length) : (l.take (i + 1)).all kb = ((l.take i).all kb && kb (l.getD i 0)) := by
  rw [List.take_add_one, List.getElem?_eq_getElem hi, List.all_append, List.getD_eq_getElem?_getD, List.getElem?_eq_getElem hi]
  simp
theorem all_not (l : List Int) (i : Nat) (hi : i < l.length) (h : kb (l.getD i 0) = false) : l.all kb = false := by
  rw [List.all_eq_false]
  refine ⟨l[i], List.getElem_mem hi, ?_⟩
  rw [List.getD_eq_getElem?_getD, List.getElem?_eq_getElem hi] at h
  simpa using h
theorem all_not_take (l : List Int) (i : Nat) (h : (l.take i).all kb = false) : l.all kb = false := by
  rw [List.all_eq_false] at h ⊢
  obtain ⟨x, hx, h⟩ := h
  exact ⟨x, List.mem_of_mem_take hx, h⟩
theorem kb_of (x : Int) : kb x = true ↔ 33 ≤ x ∧ x ≤ 126 := by unfold kb; simp
theorem kb_not (x : Int) (h : kb x = false) : x < 33 ∨ (33 ≤ x ∧ 126 < x) := by
  unfold kb at h
  rw [Bool.and_eq_false_iff, decide_eq_false_iff_not, decide_eq_false_iff_not] at h
  omega
theorem toList_nil (s : ByteArray) : s.toList = ([] : List UInt8) ↔ s.size = 0 := by
  rw [ByteArray.toList_eq]
  constructor
  · intro h
    have := congrArg List.length h
    simpa using this
  · intro h
    apply List.eq_nil_of_length_eq_zero
    simpa using h
end Go.Proofs.Ytolpjgpimholcaa.Fnv

/- The walks of chapter 04's functions and of their reference: the number of a text, a number's bucket, a key. -/
namespace Go.Proofs.Ytolpjgpimholcaa.Fnv
open Go Go.RowKit Go.Proofs.Ytolpjgpimholcaa.Mem
set_option linter.unusedVariables false
set_option maxRecDepth 100000
theorem str_ix (s : ByteArray) (i : Nat) (hi : i < s.size) (W : World) : (Instr.index 9 (.string s) (.int .i64 (i : Int))).run Try.prog W = .ok (.int .u8 ((bs s).getD i 0)) W := by
  rw [run_index_string W _ s .i64 i Try.underlying9, dif_pos ⟨by omega, by omega⟩, bs_getD s i hi]
  congr 3
  have e : ((i : Int)).toNat = i := by omega
  simp only [e]
  have hi' : i < s.data.toList.length := by rw [Array.length_toList]; exact hi
  rw [List.getD_eq_getElem?_getD, List.getElem?_eq_getElem hi']
  rfl
theorem bs_at (s : ByteArray) (i : Nat) (hi : i < s.size) : 0 ≤ (bs s).getD i 0 ∧ (bs s).getD i 0 ≤ 255 := by
  have hi' : i < (bs s).length := by rw [bs_length]; exact hi
  rw [List.getD_eq_getElem?_getD, List.getElem?_eq_getElem hi']
  exact bs_bytes s _ (List.getElem_mem hi')
theorem xor_wrap (x c : Int) : 0 ≤ Go.bits .xor .u32 x c ∧ Go.bits .xor .u32 x c < 4294967296 := by
  unfold Go.bits
  rw [IntKind.wrap_u32]
  omega
theorem more_calls (x : Int) (s : ByteArray) (w : World) (hs : s.size ≤ 9223372036854775807) (x0 : 0 ≤ x) (x1 : x < 4294967296) : Calls Try.prog 120 #[.int .u32 x, .string s] w fun e w' => e = .returned (.int .u32 (numL x (bs s))) ∧ w' = w := by
  have IX := Lib.hid (str_ix s)
  have BA := Lib.hid (bs_at s)
  have NT := Lib.hid (numL_take x (bs s))
  have NA : Hid (numL x (bs s) = numL x ((bs s).take s.size)) := by show numL x (bs s) = _; rw [List.take_of_length_le (by rw [bs_length]; exact Nat.le_refl _)]
  have NR : Hid (∀ k, 0 ≤ numL x ((bs s).take k) ∧ numL x ((bs s).take k) < 4294967296) := fun k => numL_range _ _ x0 x1
  have BL := Lib.hid (bs_length s)
  have N0 : Hid (x = numL x ((bs s).take 0)) := rfl
  obtain ⟨n, hn⟩ : ∃ n, s.size = n := ⟨_, rfl⟩
  rw [hn] at hs NA
  replace hn := Lib.hid hn
  rw [NA.out]
  replace NA := ()
  go_enter Try.func120, Try.ntmps120
  go_wp2_with fail
  go_loopg [0, 8] n (fun g y i wr => ∃ (k : Nat) (z : Int), y = .int .u32 z ∧ i = .int .i64 k ∧ g = n - k ∧ k ≤ n ∧ Hid (z = numL x ((bs s).take k)) ∧ wr = w)
  case atStart => exact ⟨0, x, rfl, rfl, by omega, by omega, N0.out, rfl⟩
  case round =>
    obtain ⟨k, z, rfl, rfl, hg, hk, hz, rfl⟩ := hrel
    replace hg := Lib.hid hg
    clear N0
    by_cases h1 : k < n
    · have h1' : k < s.size := by rw [hn.out]; exact h1
      have ix := IX.out k (by rw [hn.out]; exact h1)
      have hb := BA.out k (by rw [hn.out]; exact h1)
      have NT1 := Lib.hid (NT.out k (by rw [BL.out, hn.out]; exact h1))
      generalize (bs s).getD k 0 = c at ix hb NT1
      have zr : 0 ≤ z ∧ z < 4294967296 := by rw [hz.out]; exact NR.out k
      have xw := xor_wrap z c
      have ZS : Hid (stp z c = numL x ((bs s).take (k + 1))) := by show _ = _; rw [NT1.out, ← hz.out]
      obtain ⟨q, hq⟩ : ∃ q, Go.bits .xor .u32 z c = q := ⟨_, rfl⟩
      have SQ : Hid (stp z c = q * 16777619 % 4294967296) := by show _ = _; unfold stp; rw [hq]
      rw [hq] at xw
      obtain ⟨hb1, hb2⟩ := hb
      obtain ⟨xw1, xw2⟩ := xw
      clear IX BA NT NR BL NT1 hz
      go_wp2_with fail
      go_roundg (n - (k + 1))
      case measure => have := hg.out; omega
      case rel => exact ⟨k + 1, q * 16777619 % 4294967296, rfl, rfl, rfl, by omega, by rw [← SQ.out]; exact ZS.out, rfl⟩
    · have h1' : ¬ k < s.size := by rw [hn.out]; exact h1
      obtain rfl : k = n := by omega
      clear IX BA NT NR BL
      go_wp2_with fail
      go_ret
      exact ⟨congrArg (fun q => Ending.returned (.int .u32 q)) hz.out, rfl⟩
theorem sum_calls (s : ByteArray) (w : World) (hs : s.size ≤ 9223372036854775807) : Calls Try.prog 104 #[.string s] w fun e w' => e = .returned (.int .u32 (num s)) ∧ w' = w := by
  have M := Lib.hid (more_calls 2166136261 s w hs (by decide) (by decide))
  unfold num
  go_enter Try.func104, Try.ntmps104
  go_wp2_with fail
  refine M.out.mono ?_
  rintro e w1 ⟨rfl, rfl⟩
  go_wp2_with fail
  go_ret
  exact ⟨rfl, rfl⟩
theorem bucket_calls (x n : Int) (w : World) (x0 : 0 ≤ x) (x1 : x < 4294967296) (n0 : -9223372036854775808 ≤ n) (n1 : n ≤ 9223372036854775807) : Calls Try.prog 73 #[.int .u32 x, (.int .i64 n)] w fun e w' => e = .returned (.tuple #[.int .i64 (bucketP x n).1, .int .i64 (bucketP x n).2]) ∧ w' = w := by
  unfold bucketP
  by_cases h1 : n < 1
  · rw [if_neg (fun h => by have := Pow.range h; omega)]
    go_enter Try.func73, Try.ntmps73
    go_wp2_with fail
    go_ret2
    exact ⟨rfl, rfl⟩
  by_cases h2 : 64 < n
  · rw [if_neg (fun h => by have := Pow.range h; omega)]
    go_enter Try.func73, Try.ntmps73
    go_wp2_with fail
    go_ret2
    exact ⟨rfl, rfl⟩
  have iff := pow_iff n (by omega) (by omega)
  obtain ⟨z, hz⟩ : ∃ z, Go.bits .and .i64 n (n - 1) = z := ⟨_, rfl⟩
  rw [hz] at iff
  by_cases hp : Pow n
  · have z0 : (z != 0) = false := by rw [bne_eq_false_iff_eq]; exact iff.2 hp
    have AL := and_low x x0 x1 n hp
    rw [if_pos hp]
    clear iff hp
    go_enter Try.func73, Try.ntmps73
    go_wp2_with fail
    go_ret2
    exact ⟨rfl, rfl⟩
  · have z0 : (z != 0) = true := by rw [bne_iff_ne]; exact fun e => hp (iff.1 e)
    rw [if_neg hp]
    clear iff hp
    go_enter Try.func73, Try.ntmps73
    go_wp2_with fail
    go_ret2
    exact ⟨rfl, rfl⟩
theorem key_calls (s : ByteArray) (w : World) (hs : s.size ≤ 9223372036854775807) : Calls Try.prog 83 #[.string s] w fun e w' => e = .returned (.bool (keyOk (bs s))) ∧ w' = w := by
  have BL := bs_length s
  obtain ⟨ok, hok⟩ : ∃ ok, keyOk (bs s) = ok := ⟨_, rfl⟩
  rw [hok]
  unfold keyOk at hok
  rw [BL] at hok
  by_cases h0 : s.size = 0
  · have e1 : s.toList = [] := (toList_nil s).2 h0
    have e2 : s.toList.isEmpty = true := by rw [e1]; rfl
    have : ok = false := by rw [← hok, decide_eq_false (by omega)]; rfl
    subst this
    clear hok BL
    go_enter Try.func83, Try.ntmps83
    go_wp2_with fail
    go_ret
    exact ⟨rfl, rfl⟩
  have e1 : (s.toList == []) = false := by rw [beq_eq_false_iff_ne]; exact fun e => h0 ((toList_nil s).1 e)
  have e2 : s.toList ≠ [] := fun e => h0 ((toList_nil s).1 e)
  have e3 : s.toList.isEmpty = false := by
    cases h : s.toList with
    | nil => exact absurd h e2
    | cons x l => rfl
  by_cases h1 : 32 < s.size
  · have : ok = false := by rw [← hok, decide_eq_false (show ¬ s.size ≤ 32 by omega), Bool.and_false]; rfl
    subst this
    have h1' : (32 : Int) < s.size := by omega
    clear hok BL
    go_enter Try.func83, Try.ntmps83
    go_wp2_with fail
    go_ret
    exact ⟨rfl, rfl⟩
  have h1' : ¬ (32 : Int) < s.size := by omega
  rw [decide_eq_true (show 1 ≤ s.size by omega), decide_eq_true (show s.size ≤ 32 by omega)] at hok
  have OK : Hid ((bs s).all kb = ok) := by rw [← hok]; rfl
  clear hok
  have IX := Lib.hid (str_ix s)
  have BA := Lib.hid (bs_at s)
  have AT := Lib.hid (all_take (bs s))
  have AN := Lib.hid (all_not (bs s))
  have AF : Hid ((bs s).take s.size = bs s) := List.take_of_length_le (by rw [BL]; exact Nat.le_refl _)
  replace BL := Lib.hid BL
  have h0' : Hid (¬ s.size = 0) := h0
  obtain ⟨n, hn⟩ : ∃ n, s.size = n := ⟨_, rfl⟩
  rw [hn] at AF
  replace hn := Lib.hid hn
  clear h0
  go_enter Try.func83, Try.ntmps83
  go_wp2_with fail
  go_loopg [13] n (fun g i wr => ∃ (k : Nat), i = .int .i64 k ∧ g = n - k ∧ k ≤ n ∧ Hid (((bs s).take k).all kb = true) ∧ wr = w)
  case atStart => exact ⟨0, rfl, by omega, by omega, rfl, rfl⟩
  case round =>
    obtain ⟨k, rfl, hg, hk, hz, rfl⟩ := hrel
    replace hg := Lib.hid hg
    by_cases h2 : k < n
    · have h2' : k < s.size := by rw [hn.out]; exact h2
      have ix := IX.out k h2'
      have hb := BA.out k h2'
      have AT1 := Lib.hid (AT.out k (by rw [BL.out]; exact h2'))
      have AN1 := Lib.hid (AN.out k (by rw [BL.out]; exact h2'))
      generalize (bs s).getD k 0 = c at ix hb AT1 AN1
      obtain ⟨hb1, hb2⟩ := hb
      clear IX BA AT AN
      by_cases hc : kb c = true
      · obtain ⟨c1, c2⟩ := (kb_of c).1 hc
        have HZ : Hid (((bs s).take (k + 1)).all kb = true) := by show _ = _; rw [AT1.out, hz.out, hc]; rfl
        clear hc AT1 AN1
        go_wp2_with fail
        go_roundg (n - (k + 1))
        case measure => have := hg.out; omega
        case rel => exact ⟨k + 1, rfl, rfl, by omega, HZ.out, rfl⟩
      · have hc : kb c = false := by simpa using hc
        have F : Hid (ok = false) := by show _ = _; rw [← OK.out]; exact AN1.out hc
        have cc := kb_not c hc
        clear hc AT1 AN1 hz
        rcases cc with c1 | ⟨c1, c2⟩ <;>
        (go_wp2_with fail
         go_ret
         exact ⟨congrArg (fun q => Ending.returned (.bool q)) F.out.symm, rfl⟩)
    · have h2' : ¬ k < s.size := by rw [hn.out]; exact h2
      obtain rfl : k = n := by omega
      have F : Hid (ok = true) := by show _ = _; rw [← OK.out]; rw [AF.out] at hz; exact hz.out
      clear IX BA AT AN hz
      go_wp2_with fail
      go_ret
      exact ⟨congrArg (fun q => Ending.returned (.bool q)) F.out.symm, rfl⟩
end Go.Proofs.Ytolpjgpimholcaa.Fnv

/- The walks of chapter 04's reference. -/
namespace Go.Proofs.Ytolpjgpimholcaa.Fnv
open Go Go.RowKit Go.Proofs.Ytolpjgpimholcaa.Mem
set_option linter.unusedVariables false
set_option maxRecDepth 100000
theorem refmore_calls (x : Int) (s : ByteArray) (w : World) (hs : s.size ≤ 9223372036854775807) (x0 : 0 ≤ x) (x1 : x < 4294967296) : Calls Try.prog 121 #[.int .u32 x, .string s] w fun e w' => e = .returned (.int .u32 (numL x (bs s))) ∧ w' = w := by
  have IX := Lib.hid (str_ix s)
  have BA := Lib.hid (bs_at s)
  have NT := Lib.hid (numL_take x (bs s))
  have NA : Hid (numL x (bs s) = numL x ((bs s).take s.size)) := by show numL x (bs s) = _; rw [List.take_of_length_le (by rw [bs_length]; exact Nat.le_refl _)]
  have NR : Hid (∀ k, 0 ≤ numL x ((bs s).take k) ∧ numL x ((bs s).take k) < 4294967296) := fun k => numL_range _ _ x0 x1
  have BL := Lib.hid (bs_length s)
  have N0 : Hid (x = numL x ((bs s).take 0)) := rfl
  obtain ⟨n, hn⟩ : ∃ n, s.size = n := ⟨_, rfl⟩
  rw [hn] at hs NA
  replace hn := Lib.hid hn
  rw [NA.out]
  replace NA := ()
  go_enter Try.func121, Try.ntmps121
  go_wp2_with fail
  go_loopg [0, 5] n (fun g y i wr => ∃ (k : Nat) (z : Int), y = .int .u32 z ∧ i = .int .i64 k ∧ g = n - k ∧ k ≤ n ∧ Hid (z = numL x ((bs s).take k)) ∧ wr = w)
  case atStart => exact ⟨0, x, rfl, rfl, by omega, by omega, N0.out, rfl⟩
  case round =>
    obtain ⟨k, z, rfl, rfl, hg, hk, hz, rfl⟩ := hrel
    replace hg := Lib.hid hg
    clear N0
    by_cases h1 : k < n
    · have h1' : k < s.size := by rw [hn.out]; exact h1
      have ix := IX.out k (by rw [hn.out]; exact h1)
      have hb := BA.out k (by rw [hn.out]; exact h1)
      have NT1 := Lib.hid (NT.out k (by rw [BL.out, hn.out]; exact h1))
      generalize (bs s).getD k 0 = c at ix hb NT1
      have zr : 0 ≤ z ∧ z < 4294967296 := by rw [hz.out]; exact NR.out k
      have xw := xor_wrap z c
      have ZS : Hid (stp z c = numL x ((bs s).take (k + 1))) := by show _ = _; rw [NT1.out, ← hz.out]
      obtain ⟨q, hq⟩ : ∃ q, Go.bits .xor .u32 z c = q := ⟨_, rfl⟩
      have SQ : Hid (stp z c = q * 16777619 % 4294967296) := by show _ = _; unfold stp; rw [hq]
      rw [hq] at xw
      obtain ⟨hb1, hb2⟩ := hb
      obtain ⟨xw1, xw2⟩ := xw
      clear IX BA NT NR BL NT1 hz
      go_wp2_with fail
      go_roundg (n - (k + 1))
      case measure => have := hg.out; omega
      case rel => exact ⟨k + 1, q * 16777619 % 4294967296, rfl, rfl, rfl, by omega, by rw [← SQ.out]; exact ZS.out, rfl⟩
    · have h1' : ¬ k < s.size := by rw [hn.out]; exact h1
      obtain rfl : k = n := by omega
      clear IX BA NT NR BL
      go_wp2_with fail
      go_ret
      exact ⟨congrArg (fun q => Ending.returned (.int .u32 q)) hz.out, rfl⟩
theorem refsum_calls (s : ByteArray) (w : World) (hs : s.size ≤ 9223372036854775807) : Calls Try.prog 106 #[.string s] w fun e w' => e = .returned (.int .u32 (num s)) ∧ w' = w := by
  have M := Lib.hid (refmore_calls 2166136261 s w hs (by decide) (by decide))
  unfold num
  go_enter Try.func106, Try.ntmps106
  go_wp2_with fail
  refine M.out.mono ?_
  rintro e w1 ⟨rfl, rfl⟩
  go_wp2_with fail
  go_ret
  exact ⟨rfl, rfl⟩
theorem refbucket_calls (x n : Int) (w : World) (x0 : 0 ≤ x) (x1 : x < 4294967296) : Calls Try.prog 79 #[.int .u32 x, (.int .i64 n)] w fun e w' => e = .returned (.tuple #[.int .i64 (bucketP x n).1, .int .i64 (bucketP x n).2]) ∧ w' = w := by
  obtain ⟨r1, r2, hr⟩ : ∃ r1 r2, bucketP x n = (r1, r2) := ⟨_, _, rfl⟩
  rw [hr]
  replace hr := Lib.hid hr
  show Calls _ _ _ _ (fun e w' => e = .returned (.tuple #[.int .i64 r1, .int .i64 r2]) ∧ w' = w)
  go_enter Try.func79, Try.ntmps79
  go_wp2_with fail
  go_loopg [6] 127 (fun g i wr => ∃ (p : Int), i = .int .i64 p ∧ g = 128 - p.toNat ∧ Hid (Pow p ∨ p = 128) ∧ Hid (∀ q, Pow q → q < p → n ≠ q) ∧ wr = w)
  case atStart => exact ⟨1, rfl, by decide, .inl (.inl rfl), fun q hq h => by have := Pow.range hq; omega, rfl⟩
  case round =>
    obtain ⟨p, rfl, hg, hp, hq, rfl⟩ := hrel
    replace hg := Lib.hid hg
    have pr : 1 ≤ p ∧ p ≤ 128 := by
      rcases hp.out with h | h
      · have := h.range; omega
      · omega
    by_cases h1 : p ≤ 64
    · have pw : Pow p := hp.out.resolve_right (by omega)
      by_cases h2 : p = n
      · subst h2
        have F : (x % p, 0) = (r1, r2) := (if_pos pw).symm.trans hr.out
        injection F with F1 F2
        subst F1 F2
        have m0 := Int.emod_nonneg x (show p ≠ 0 by omega)
        have m1 := Int.emod_lt_of_pos x (show 0 < p by omega)
        clear hq pw hr
        go_wp2_with fail
        go_ret2
        exact ⟨rfl, rfl⟩
      · have h2' : (p == n) = false := by rw [beq_eq_false_iff_ne]; exact h2
        have HP : Hid (Pow (2 * p) ∨ 2 * p = 128) := by
          show _ ∨ _
          unfold Pow at pw ⊢; omega
        have HQ : Hid (∀ q, Pow q → q < 2 * p → n ≠ q) := fun q hq2 hlt => by
          by_cases e : q < p
          · exact hq.out q hq2 e
          · have : q = p := by unfold Pow at pw hq2; omega
            rw [this]; exact fun e => h2 e.symm
        clear hp hq pw h2
        go_wp2_with fail
        go_roundg (128 - (2 * p).toNat)
        case measure => have := hg.out; omega
        case rel => exact ⟨2 * p, rfl, rfl, HP.out, HQ.out, rfl⟩
    · have F : ((0 : Int), (1 : Int)) = (r1, r2) := (if_neg fun h => hq.out n h (by have := h.range; omega) rfl).symm.trans hr.out
      injection F with F1 F2
      subst F1 F2
      clear hq hp hr
      go_wp2_with fail
      go_ret2
      exact ⟨rfl, rfl⟩
theorem refkey_calls (s : ByteArray) (w : World) (hs : s.size ≤ 9223372036854775807) : Calls Try.prog 86 #[.string s] w fun e w' => e = .returned (.bool (keyOk (bs s))) ∧ w' = w := by
  have BL := bs_length s
  obtain ⟨ok, hok⟩ : ∃ ok, keyOk (bs s) = ok := ⟨_, rfl⟩
  rw [hok]
  unfold keyOk at hok
  rw [BL] at hok
  have IX := Lib.hid (str_ix s)
  have BA := Lib.hid (bs_at s)
  have AT := Lib.hid (all_take (bs s))
  have AN := Lib.hid (all_not_take (bs s))
  have AF : Hid ((bs s).take s.size = bs s) := List.take_of_length_le (by rw [BL]; exact Nat.le_refl _)
  replace BL := Lib.hid BL
  obtain ⟨n, hn⟩ : ∃ n, s.size = n := ⟨_, rfl⟩
  rw [hn] at AF
  obtain ⟨b0, hb0⟩ : ∃ b0, (decide (1 ≤ n) && decide (n ≤ 32)) = b0 := ⟨_, rfl⟩
  rw [hn, hb0] at hok
  have G : 1 ≤ s.size ∧ s.size ≤ 32 ∧ b0 = true ∨ s.size < 1 ∧ b0 = false ∨ 1 ≤ s.size ∧ 32 < s.size ∧ b0 = false := by
    rw [← hb0, hn]
    by_cases c1 : 1 ≤ n <;> by_cases c2 : n ≤ 32 <;> simp [c1, c2] <;> omega
  have OK : Hid ((b0 && (bs s).all kb) = ok) := hok
  clear hok hb0
  replace hn := Lib.hid hn
  have go : ∀ (a : Act) (b0' : b0 = b0), True := fun _ _ => trivial
  clear go
  rcases G with ⟨g1, g2, rfl⟩ | ⟨g1, rfl⟩ | ⟨g1, g2, rfl⟩
  · have g1' : (1 : Int) ≤ s.size := by omega
    have g2' : (s.size : Int) ≤ 32 := by omega
    go_enter Try.func86, Try.ntmps86
    go_wp2_with fail
    go_loopg [3, 4] n (fun g o i wr => ∃ (k : Nat) (b : Bool), o = .bool b ∧ i = .int .i64 k ∧ g = n - k ∧ k ≤ n ∧ Hid (((bs s).take k).all kb = b) ∧ wr = w)
    case atStart => exact ⟨0, true, rfl, rfl, by omega, by omega, rfl, rfl⟩
    case round =>
      obtain ⟨k, b, rfl, rfl, hg, hk, hz, rfl⟩ := hrel
      replace hg := Lib.hid hg
      clear g1 g2 g1' g2'
      by_cases h2 : k < n
      · have h2' : k < s.size := by rw [hn.out]; exact h2
        cases b with
        | true =>
          have ix := IX.out k h2'
          have hb := BA.out k h2'
          have AT1 := Lib.hid (AT.out k (by rw [BL.out]; exact h2'))
          generalize (bs s).getD k 0 = c at ix hb AT1
          obtain ⟨hb1, hb2⟩ := hb
          clear IX BA AT AN
          have AT2 : Hid (((bs s).take (k + 1)).all kb = kb c) := by show _ = _; rw [AT1.out, hz.out]; rfl
          by_cases hc : kb c = true
          · obtain ⟨c1, c2⟩ := (kb_of c).1 hc
            have HZ : Hid (((bs s).take (k + 1)).all kb = true) := by show _ = _; rw [AT2.out, hc]
            clear hc AT1 AT2 hz
            go_wp2_with fail
            go_roundg (n - (k + 1))
            case measure => have := hg.out; omega
            case rel => exact ⟨k + 1, true, rfl, rfl, rfl, by omega, HZ.out, rfl⟩
          · have hc : kb c = false := by simpa using hc
            have HZ : Hid (((bs s).take (k + 1)).all kb = false) := by show _ = _; rw [AT2.out, hc]
            have cc := kb_not c hc
            clear hc AT1 AT2 hz
            rcases cc with c1 | ⟨c1, c2⟩
            · have c1' : ¬ 33 ≤ c := by omega
              go_wp2_with fail
              go_roundg (n - (k + 1))
              case measure => have := hg.out; omega
              case rel => exact ⟨k + 1, false, rfl, rfl, rfl, by omega, HZ.out, rfl⟩
            · have c2' : ¬ c ≤ 126 := by omega
              go_wp2_with fail
              go_roundg (n - (k + 1))
              case measure => have := hg.out; omega
              case rel => exact ⟨k + 1, false, rfl, rfl, rfl, by omega, HZ.out, rfl⟩
        | false =>
          have F : Hid (ok = false) := by show _ = _; rw [← OK.out, AN.out k hz.out]; rfl
          clear IX BA AT AN hz
          go_wp2_with fail
          go_ret
          exact ⟨congrArg (fun q => Ending.returned (.bool q)) F.out.symm, rfl⟩
      · have h2' : ¬ k < s.size := by rw [hn.out]; exact h2
        obtain rfl : k = n := by omega
        have F : Hid (ok = b) := by show _ = _; rw [AF.out] at hz; rw [← OK.out, hz.out]; rfl
        clear IX BA AT AN hz
        go_wp2_with fail
        go_ret
        exact ⟨congrArg (fun q => Ending.returned (.bool q)) F.out.symm, rfl⟩
  · have g1' : ¬ (1 : Int) ≤ s.size := by omega
    have F : Hid (ok = false) := by show _ = _; rw [← OK.out]; rfl
    have z : s.size = 0 := by omega
    have z' : ¬ 0 < s.size := by omega
    clear IX BA AT AN OK AF
    go_enter Try.func86, Try.ntmps86
    go_wp2_with fail
    go_loopg [3, 4] 0 (fun g o i wr => o = .bool false ∧ i = .int .i64 0 ∧ g = 0 ∧ wr = w)
    case atStart => exact ⟨rfl, rfl, rfl, rfl⟩
    case round =>
      obtain ⟨rfl, rfl, hg, rfl⟩ := hrel
      clear hg
      go_wp2_with fail
      go_ret
      exact ⟨congrArg (fun q => Ending.returned (.bool q)) F.out.symm, rfl⟩
  · have g1' : (1 : Int) ≤ s.size := by omega
    have g2' : ¬ (s.size : Int) ≤ 32 := by omega
    have F : Hid (ok = false) := by show _ = _; rw [← OK.out]; rfl
    have z' : 0 < s.size := by omega
    clear IX BA AT AN OK AF
    go_enter Try.func86, Try.ntmps86
    go_wp2_with fail
    go_loopg [3, 4] 0 (fun g o i wr => o = .bool false ∧ i = .int .i64 0 ∧ g = 0 ∧ wr = w)
    case atStart => exact ⟨rfl, rfl, rfl, rfl⟩
    case round =>
      obtain ⟨rfl, rfl, hg, rfl⟩ := hrel
      clear hg
      go_wp2_with fail
      go_ret
      exact ⟨congrArg (fun q => Ending.returned (.bool q)) F.out.symm, rfl⟩
end Go.Proofs.Ytolpjgpimholcaa.Fnv

/- Both arenas behind Laid: what stands for the pages and for each item. No program in sight. -/
namespace Go.Proofs.Ytolpjgpimholcaa.Item
open Go Go.RowKit Go.Proofs.Ytolpjgpimholcaa.Mem Go.Proofs.Ytolpjgpimholcaa.CodecPure Go.Proofs.Ytolpjgpimholcaa.ArenaPure Go.Proofs.Ytolpjgpimholcaa.Codec Go.Proofs.Ytolpjgpimholcaa.Arena
set_option linter.unusedVariables false
set_option maxRecDepth 100000
theorem grant_ok {s : St} (hs : Ok s) (c : Int) : Ok (ArenaPure.grant s c).1 := by
  unfold ArenaPure.grant
  split
  · exact hs
  · split
    · rename_i h1 h2
      exact granted_ok hs (first s.own) c h2 (by omega)
    · exact hs
theorem granting_ok {s : St} (hs : Ok s) : ∀ k, Ok (granting s k)
  | 0 => hs
  | k + 1 => grant_ok (granting_ok hs k) 1
theorem madeS_ok4 : Ok (madeS 4) := granting_ok (new_ok 4 (by decide) (by decide)) 3
theorem laid_good {s : St} (hs : Ok s) (ho : s.own = [1, 1, 1, -1]) (n : Nat) (hn : n < 30) : ArenaPure.Good s (opsR (64 * (n : Int)) (bs (keyS n)) (bs V1)) :=
  (opsP_good (tc := 64) hs (laid_within ho n (by omega)) (by rw [bs_length, (keyS_bs n hn).2]; decide) (by decide) (by rw [bs_length, (keyS_bs n hn).2]; decide) (bs_bytes _) (bs_bytes _)).perm (ops_perm _ _ _)
theorem laidS_ok : ∀ n, n ≤ 30 → Ok (laidS n)
  | 0, _ => madeS_ok4
  | n + 1, h => (laid_good (laidS_ok n (by omega)) (laidS_own n) n (by omega)).lays
theorem opsR_in {x : Int} {key val : List Int} (hk : key.length = 5) (hv : val.length = 1) : ∀ o ∈ opsR x key val, x ≤ o.1 ∧ o.1 + o.2.length ≤ x + 64 := by
  intro o ho
  simp only [opsR, List.mem_cons, List.not_mem_nil, or_false] at ho
  rcases ho with rfl | rfl | rfl | rfl | rfl | rfl | rfl | rfl | rfl | rfl | rfl | rfl | rfl | rfl <;> simp only [pb4_length, leb_length, hk, hv] <;> omega
end Go.Proofs.Ytolpjgpimholcaa.Item

/- Chapter 10 in plain words: the arena of chapter 10's items, but for what leads from item to item. No program in sight. -/
namespace Go.Proofs.Ytolpjgpimholcaa.ArenaPure
open Go Go.RowKit Go.Proofs.Ytolpjgpimholcaa.Mem Go.Proofs.Ytolpjgpimholcaa.CodecPure Go.Proofs.Ytolpjgpimholcaa.Codec Go.Proofs.Ytolpjgpimholcaa.Arena Go.Proofs.Ytolpjgpimholcaa.Item Go.Proofs.Ytolpjgpimholcaa.Fnv
set_option linter.unusedVariables false
set_option maxRecDepth 100000
/-- what was laid, each piece apart from all others, is got -/
theorem lays_each {s : St} {l : List (Int × List Int)} (h : Good s l) (hp : l.Pairwise Off) {o : Int × List Int} (ho : o ∈ l) : got (lays s l) o.1 o.2.length = o.2 := by
  obtain ⟨l1, l2, rfl⟩ := List.append_of_mem ho
  exact lays_in h fun p hp2 => (List.pairwise_cons.1 (List.pairwise_append.1 hp).2.1).1 p hp2
theorem opsR_off (x : Int) (key val : List Int) : (opsR x key val).Pairwise Off := (List.Perm.pairwise_iff (fun h => Off.symm h) (ops_perm x key val)).1 (opsP_off x key val)
theorem laid_got : ∀ n, n ≤ 30 → ∀ k : Nat, k < n → ∀ o ∈ opsR (64 * (k : Int)) (bs (keyS k)) (bs V1), got (laidS n) o.1 o.2.length = o.2 := by
  intro n
  induction n with
  | zero => intro _ k hk; omega
  | succ n ih =>
    intro hn k hk o ho
    have G := laid_good (laidS_ok n (by omega)) (laidS_own n) n (by omega)
    by_cases e : k = n
    · subst e
      exact lays_each G (opsR_off _ _ _) ho
    · have R := opsR_in (x := 64 * (k : Int)) (by rw [bs_length, (keyS_bs k (by omega)).2]) (by decide) o ho
      have f := lays_off G (y := o.1) (n := o.2.length) (by omega) (by omega) fun p hp => by
        have := opsR_in (x := 64 * (n : Int)) (by rw [bs_length, (keyS_bs n (by omega)).2]) (by decide) p hp
        omega
      show got (lays (laidS n) _) _ _ = _
      rw [f]
      exact ih (by omega) k (by omega) o ho
theorem laid_zero : ∀ n : Nat, n ≤ 30 → ∀ y m : Int, 64 * (n : Int) ≤ y → 0 ≤ m → got (laidS n) y m = got (madeS 4) y m := by
  intro n
  induction n with
  | zero => intro _ y m _ _; rfl
  | succ n ih =>
    intro hn y m hy hm
    have G := laid_good (laidS_ok n (by omega)) (laidS_own n) n (by omega)
    have f := lays_off G (y := y) (n := m) (by omega) hm fun p hp => by
      have := opsR_in (x := 64 * (n : Int)) (by rw [bs_length, (keyS_bs n (by omega)).2]) (by decide) p hp
      omega
    show got (lays (laidS n) _) _ _ = _
    rw [f]
    exact ih (by omega) y m (by omega) hm
theorem made_B : (madeS 4).B = List.replicate 4096 0 := by decide +kernel
/-- the bytes of all items' first fields -/
def NextByte (i : Nat) : Prop := i < 1920 ∧ i % 64 < 4
/-- the arena of chapter 10's items, but for what leads from item to item -/
structure NS (s : St) (nx : Nat → Int) : Prop where
  lay : Lay (laidS 30) s NextByte
  nx : ∀ k : Nat, k < 30 → itemGet s (64 * (k : Int)) 0 = (nx k, 0)
variable {s t : St} {nx ny : Nat → Int}
theorem NS.ok (h : NS s nx) : Ok s := h.lay.ok
theorem NS.own (h : NS s nx) : s.own = [1, 1, 1, -1] := h.lay.own.trans (laidS_own 30)
theorem NS.hdr (h : NS s nx) {k : Nat} (hk : k < 30) : within s (64 * (k : Int)) 40 := by
  have := within_part (laid_within h.own k (by omega)) 0 40 (by decide) (by decide) (by decide) (by decide)
  rwa [Int.add_zero] at this
theorem NS.pl (h : NS s nx) {k : Nat} (hk : k < 30) : Pl (nx k) := by
  have := (got_of_itemGet h.ok (h.hdr hk) (by decide) (by decide) (by decide) (h.nx k hk)).2
  exact this
def upd (f : Nat → Int) (k : Nat) (x : Int) : Nat → Int := fun j => if j = k then x else f j
theorem upd_at (f : Nat → Int) (k : Nat) (x : Int) : upd f k x k = x := if_pos rfl
theorem upd_ne (f : Nat → Int) {k j : Nat} (x : Int) (h : j ≠ k) : upd f k x j = f j := if_neg h
theorem NS.set (h : NS s nx) {k : Nat} (hk : k < 30) {x : Int} (hx : Pl x) : (itemSet s (64 * (k : Int)) 0 x).2 = 0 ∧ NS (itemSet s (64 * (k : Int)) 0 x).1 (upd nx k x) := by
  have hh := h.hdr hk
  rw [itemSet_lay (f := 0) h.ok hh (by decide) (by decide) (by decide) hx]
  have e : 64 * (k : Int) + fat 0 = 64 * (k : Int) := by show 64 * (k : Int) + 0 = _; omega
  have hw4 : within s (64 * (k : Int) + fat 0) (fb 0 x).length := by rw [fb_length x (by decide) (by decide)]; exact hdr_f hh (by decide) (by decide)
  have hl : ((fb 0 x).length : Int) = 4 := fb_length x (by decide) (by decide)
  have L1 := lay_frame h.ok hw4 (fb_bytes 0 x) (fun i => 64 * k ≤ i ∧ i < 64 * k + 4) fun i h1 h2 => by omega
  have G := got_lay h.ok hw4
  rw [hl] at G
  refine ⟨rfl, h.lay.trans (L1.mono fun i hi => ⟨by omega, by omega⟩), fun j hj => ?_⟩
  have hj2 := L1.hdr (h.hdr hj)
  by_cases ej : j = k
  · subst ej
    rw [upd_at]
    exact itemGet_of L1.ok hj2 (by decide) (by decide) (by decide) hx G
  · rw [upd_ne _ _ ej]
    refine itemGet_of L1.ok hj2 (by decide) (by decide) (by decide) (h.pl hj) ?_
    have e2 : 64 * (j : Int) + fat 0 = 64 * (j : Int) := by show 64 * (j : Int) + 0 = _; omega
    rw [L1.got _ _ (by omega) fun i h1 h2 h3 => by have : fw 0 = 4 := rfl; omega]
    exact (got_of_itemGet h.ok (h.hdr hj) (by decide) (by decide) (by decide) (h.nx j hj)).1
theorem NS.unique (h : NS s nx) (k : NS t ny) (e : ∀ j, j < 30 → nx j = ny j) : s = t := by
  have ho : s.own = t.own := h.own.trans k.own.symm
  refine st_ext ho fun i => ?_
  by_cases hi : NextByte i
  · obtain ⟨h1, h2⟩ := hi
    have hj : i / 64 < 30 := by omega
    have g1 := (got_of_itemGet h.ok (h.hdr hj) (by decide) (by decide) (by decide) (h.nx _ hj)).1
    have g2 := (got_of_itemGet k.ok (k.hdr hj) (by decide) (by decide) (by decide) (k.nx _ hj)).1
    rw [← e _ hj, ← g1] at g2
    have e0 : (64 * ((i / 64 : Nat) : Int) + fat 0).toNat = 64 * (i / 64) := by show (64 * ((i / 64 : Nat) : Int) + 0).toNat = _; omega
    have key : ∀ r : St, (got r (64 * ((i / 64 : Nat) : Int) + fat 0) (fw 0))[i % 64]? = r.B[i]? := fun r => by
      unfold got
      rw [e0, List.getElem?_take, if_pos (show i % 64 < (fw 0).toNat from h2), List.getElem?_drop]
      congr 1; omega
    rw [← key s, ← key t, g2]
  · rw [h.lay.out i hi, k.lay.out i hi]
theorem ns_laid : NS (laidS 30) (fun _ => -1) := by
  refine ⟨Lay.refl (laidS_ok 30 (by decide)) _, fun k hk => ?_⟩
  have hh : within (laidS 30) (64 * (k : Int)) 40 := by
    have := within_part (laid_within (laidS_own 30) k (by omega)) 0 40 (by decide) (by decide) (by decide) (by decide)
    rwa [Int.add_zero] at this
  exact itemGet_of (laidS_ok 30 (by decide)) hh (by decide) (by decide) (by decide) (show Pl (-1) from ⟨by decide, by decide⟩) (laid_got 30 (by decide) k hk (64 * (k : Int) + 0, pb4 (-1)) (by simp [opsR]))
/-! ### keys -/
/-- chapter 10's Key -/
def keyP (s : St) (at_ : Int) : List Int × Int :=
  if within s at_ 40 then if within s at_ (40 + (itemGet s at_ 8).1) then if keyOk (got s (at_ + 40) (itemGet s at_ 8).1) then (got s (at_ + 40) (itemGet s at_ 8).1, 0) else ([], 6) else ([], 1) else ([], 1)
theorem NS.got (h : NS s nx) (x n : Int) (h0 : 0 ≤ x) (hf : ∀ i : Nat, x ≤ i → (i : Int) < x + n → ¬ NextByte i) : ArenaPure.got s x n = ArenaPure.got (laidS 30) x n := h.lay.got x n h0 hf
theorem NS.key (h : NS s nx) {k : Nat} (hk : k < 30) : keyP s (64 * (k : Int)) = (bs (keyS k), 0) := by
  have hh := h.hdr hk
  obtain ⟨hb, hz⟩ := keyS_bs k hk
  have lk : (bs (keyS k)).length = 5 := by rw [bs_length, hz]
  have g8 : itemGet s (64 * (k : Int)) 8 = (5, 0) := by
    refine itemGet_of h.ok hh (by decide) (by decide) (by decide) (by unfold Fits; rw [if_neg (by decide)]; decide) ?_
    show ArenaPure.got s (64 * (k : Int) + 34) 1 = leb 5 1
    rw [h.got _ _ (by omega) fun i h1 h2 h3 => by have := h3.2; omega]
    have := laid_got 30 (by decide) k hk (64 * (k : Int) + 34, leb ((bs (keyS k)).length : Int) 1) (by simp [opsR])
    rw [lk] at this
    exact this
  have gk : ArenaPure.got s (64 * (k : Int) + 40) 5 = bs (keyS k) := by
    rw [h.got _ _ (by omega) fun i h1 h2 h3 => by have := h3.2; omega]
    have := laid_got 30 (by decide) k hk (64 * (k : Int) + 40, bs (keyS k)) (by simp [opsR])
    rw [show (((64 * (k : Int) + 40, bs (keyS k)) : Int × List Int).2.length : Int) = 5 by show ((bs (keyS k)).length : Int) = 5; rw [lk]; rfl] at this
    exact this
  have w45 : within s (64 * (k : Int)) 45 := by
    have := within_part (laid_within h.own k (by omega)) 0 45 (by decide) (by decide) (by decide) (by decide)
    rwa [Int.add_zero] at this
  unfold keyP
  rw [if_pos hh, g8]
  show (if within s (64 * (k : Int)) 45 then _ else _) = _
  rw [if_pos w45]
  show (if keyOk (ArenaPure.got s (64 * (k : Int) + 40) 5) then _ else _) = _
  rw [gk]
  have ok : keyOk (bs (keyS k)) = true := by
    rw [hb]
    unfold keyOk kb
    simp only [List.length_cons, List.length_nil, List.all_cons, List.all_nil, Bool.and_true, Bool.and_eq_true, decide_eq_true_eq]
    omega
  rw [if_pos ok]
/-- where no item begins that has a key -/
theorem NS.nokey (h : NS s nx) {x : Int} (hx : x < 0 ∨ 1920 ≤ x) : keyP s x = ([], 1) ∨ keyP s x = ([], 6) := by
  unfold keyP
  by_cases hw : within s x 40
  · right
    have x0 := hw.2.1
    have hr := in_row h.ok hw
    have hlen := h.ok.len
    rw [h.own] at hlen
    have hB : s.B.length = 4096 := hlen
    have zero : ∀ y m : Int, 1920 ≤ y → 0 ≤ m → y + m ≤ 4096 → ArenaPure.got s y m = List.replicate m.toNat 0 := fun y m h1 h2 h3 => by
      rw [h.got y m (by omega) fun i h4 h5 h6 => by have := h6.1; omega, laid_zero 30 (by decide) y m (by omega) h2]
      unfold ArenaPure.got
      rw [made_B, List.drop_replicate, List.take_replicate]
      congr 1; omega
    have g8 : itemGet s x 8 = (0, 0) := by
      refine itemGet_of h.ok hw (by decide) (by decide) (by decide) (by unfold Fits; rw [if_neg (by decide)]; decide) ?_
      show ArenaPure.got s (x + 34) 1 = leb 0 1
      rw [zero _ _ (by omega) (by decide) (by omega)]; rfl
    rw [if_pos hw, g8]
    show (if within s x 40 then _ else _) = _
    rw [if_pos hw]
    show (if keyOk (ArenaPure.got s (x + 40) 0) then _ else _) = _
    have : ArenaPure.got s (x + 40) 0 = [] := by unfold ArenaPure.got; exact List.take_zero
    rw [this, if_neg (by decide)]
  · left; rw [if_neg hw]
theorem keyS_inj {j k : Nat} (hj : j < 30) (hk : k < 30) (h : keyS j = keyS k) : j = k := by
  have e : bs (keyS j) = bs (keyS k) := by rw [h]
  rw [(keyS_bs j hj).1, (keyS_bs k hk).1] at e
  injection e with _ e
  injection e with _ e
  injection e with _ e
  injection e with e1 e
  injection e with e2 e
  omega
end Go.Proofs.Ytolpjgpimholcaa.ArenaPure

/- Chapter 10 in plain words: buckets of items, and what leads through them. No program in sight. -/
namespace Go.Proofs.Ytolpjgpimholcaa.ArenaPure
open Go Go.RowKit Go.Proofs.Ytolpjgpimholcaa.Mem Go.Proofs.Ytolpjgpimholcaa.CodecPure Go.Proofs.Ytolpjgpimholcaa.Codec Go.Proofs.Ytolpjgpimholcaa.Arena Go.Proofs.Ytolpjgpimholcaa.Item Go.Proofs.Ytolpjgpimholcaa.Fnv
set_option linter.unusedVariables false
set_option maxRecDepth 100000
/-- where an item of a number lies -/
def pl64 (k : Nat) : Int := 64 * (k : Int)
/-- the first item's place, or none -/
def headI : List Nat → Int
  | [] => -1
  | k :: _ => 64 * (k : Int)
/-- the last item's place, or none -/
def lastI (l : List Nat) : Int := match l.getLast? with
  | none => -1
  | some k => 64 * (k : Int)
theorem headI_pl {l : List Nat} (h : ∀ k ∈ l, k < 30) : Pl (headI l) := by
  cases l with
  | nil => exact ⟨by decide, by decide⟩
  | cons k l => have := h k (by simp); exact ⟨by show -1 ≤ 64 * (k : Int); omega, by show 64 * (k : Int) ≤ _; omega⟩
/-- each one leads to the next -/
def Chain (nx : Nat → Int) : List Nat → Prop
  | [] => True
  | k :: l => nx k = headI l ∧ Chain nx l
theorem Chain.keep {nx : Nat → Int} {l : List Nat} {k : Nat} {x : Int} (h : Chain nx l) (hk : k ∉ l) : Chain (upd nx k x) l := by
  induction l with
  | nil => trivial
  | cons j l ih =>
    simp only [List.mem_cons, not_or] at hk
    exact ⟨by rw [upd_ne _ _ (Ne.symm hk.1)]; exact h.1, ih h.2 hk.2⟩
theorem Chain.at {nx : Nat → Int} {A C : List Nat} {k : Nat} (h : Chain nx (A ++ k :: C)) : nx k = headI C := by
  induction A with
  | nil => exact h.1
  | cons j A ih => exact ih h.2
theorem Chain.right {nx : Nat → Int} {A C : List Nat} (h : Chain nx (A ++ C)) : Chain nx C := by
  induction A with
  | nil => exact h
  | cons j A ih => exact ih h.2
/-- an item taken out behind another one -/
theorem Chain.cut {nx : Nat → Int} {A C : List Nat} {j k : Nat} (h : Chain nx (A ++ j :: k :: C)) (hn : (A ++ j :: k :: C).Nodup) : Chain (upd nx j (headI C)) (A ++ j :: C) := by
  induction A with
  | nil =>
    have hj : j ∉ C := fun hm => (List.nodup_cons.1 hn).1 (by simp [hm])
    exact ⟨upd_at _ _ _, h.2.2.keep hj⟩
  | cons i A ih =>
    have hi : i ≠ j := fun e => (List.nodup_cons.1 hn).1 (by simp [e])
    refine ⟨?_, ih h.2 (List.nodup_cons.1 hn).2⟩
    rw [upd_ne _ _ hi]
    have := h.1
    rw [show nx i = _ from this]
    cases A <;> rfl
theorem Chain.nexts {nx ny : Nat → Int} {l : List Nat} (h : Chain nx l) (k : Chain ny l) : ∀ j ∈ l, nx j = ny j := by
  induction l with
  | nil => intro j hj; simp at hj
  | cons i l ih =>
    intro j hj
    rcases List.mem_cons.1 hj with rfl | hj
    · rw [show nx j = _ from h.1, show ny j = _ from k.1]
    · exact ih h.2 k.2 j hj
/-- the bucket of an item's key -/
def hb (n k : Nat) : Nat := (num (keyS k) % (n : Int)).toNat
theorem hb_lt {n : Nat} (hn : Pow n) (k : Nat) : hb n k < n := by
  have := hn.range
  unfold hb
  have h1 := Int.emod_nonneg (num (keyS k)) (show (n : Int) ≠ 0 by omega)
  have h2 := Int.emod_lt_of_pos (num (keyS k)) (show (0 : Int) < n by omega)
  omega
theorem hb_int {n : Nat} (hn : Pow n) (k : Nat) : num (keyS k) % (n : Int) = (hb n k : Int) := by
  have := hn.range
  unfold hb
  have h1 := Int.emod_nonneg (num (keyS k)) (show (n : Int) ≠ 0 by omega)
  omega
/-- how many items the first n buckets have -/
def total (L : Nat → List Nat) : Nat → Nat
  | 0 => 0
  | n + 1 => total L n + (L n).length
def updL (L : Nat → List Nat) (b : Nat) (l : List Nat) : Nat → List Nat := fun j => if j = b then l else L j
theorem updL_at (L : Nat → List Nat) (b : Nat) (l : List Nat) : updL L b l b = l := if_pos rfl
theorem updL_ne (L : Nat → List Nat) {b j : Nat} (l : List Nat) (h : j ≠ b) : updL L b l j = L j := if_neg h
theorem total_upd (L : Nat → List Nat) (b : Nat) (l : List Nat) : ∀ n, total (updL L b l) n + (if b < n then (L b).length else 0) = total L n + (if b < n then l.length else 0) := by
  intro n
  induction n with
  | zero => rfl
  | succ n ih =>
    show total (updL L b l) n + (updL L b l n).length + _ = total L n + (L n).length + _
    by_cases e : n = b
    · subst e
      rw [updL_at, if_pos (Nat.lt_succ_self _), if_pos (Nat.lt_succ_self _)]
      rw [if_neg (Nat.lt_irrefl _), if_neg (Nat.lt_irrefl _)] at ih
      omega
    · rw [updL_ne _ _ e]
      by_cases h : b < n
      · rw [if_pos h, if_pos h] at ih
        rw [if_pos (by omega), if_pos (by omega)]
        omega
      · rw [if_neg h, if_neg h] at ih
        rw [if_neg (by omega), if_neg (by omega)]
        omega
/-- n buckets of items: where each begins, and which items it has -/
structure TI (nx : Nat → Int) (n : Nat) (H : List Int) (L : Nat → List Nat) : Prop where
  pow : Pow n
  len : H.length = n
  heads : ∀ b, b < n → H.getD b 0 = headI (L b)
  chain : ∀ b, b < n → Chain nx (L b)
  nodup : ∀ b, b < n → (L b).Nodup
  mem : ∀ b, b < n → ∀ k ∈ L b, k < 30 ∧ hb n k = b
variable {nx : Nat → Int} {n : Nat} {H : List Int} {L : Nat → List Nat}
theorem TI.new {n : Nat} (hn : Pow n) (nx : Nat → Int) : TI nx n (List.replicate n (-1)) (fun _ => []) :=
  ⟨hn, List.length_replicate, fun b hb => by rw [List.getD_eq_getElem?_getD, List.getElem?_replicate, if_pos hb]; rfl, fun _ _ => trivial, fun _ _ => List.nodup_nil, fun b hb k hk => by simp at hk⟩
theorem getD_set (H : List Int) (b : Nat) (x : Int) (hb : b < H.length) (j : Nat) : (H.set b x).getD j 0 = if j = b then x else H.getD j 0 := by
  rw [List.getD_eq_getElem?_getD, List.getElem?_set]
  by_cases e : b = j
  · subst e; rw [if_pos rfl, if_pos hb, if_pos rfl]; rfl
  · rw [if_neg e, if_neg (Ne.symm e), List.getD_eq_getElem?_getD]
/-- an item laid in, ahead of its bucket's -/
theorem TI.insert (h : TI nx n H L) {k : Nat} (hk : k < 30) (hm : k ∉ L (hb n k)) :
    TI (upd nx k (H.getD (hb n k) 0)) n (H.set (hb n k) (64 * (k : Int))) (updL L (hb n k) (k :: L (hb n k))) := by
  have hb1 := hb_lt h.pow k
  refine ⟨h.pow, by rw [List.length_set]; exact h.len, fun b hb2 => ?_, fun b hb2 => ?_, fun b hb2 => ?_, fun b hb2 j hj => ?_⟩
  · rw [getD_set _ _ _ (by rw [h.len]; exact hb1)]
    by_cases e : b = hb n k
    · subst e; rw [if_pos rfl, updL_at]; rfl
    · rw [if_neg e, updL_ne _ _ e]; exact h.heads b hb2
  · by_cases e : b = hb n k
    · subst e
      rw [updL_at]
      exact ⟨by rw [upd_at]; exact h.heads _ hb1, (h.chain _ hb1).keep hm⟩
    · rw [updL_ne _ _ e]
      exact (h.chain b hb2).keep fun hj => e (h.mem b hb2 k hj).2.symm
  · by_cases e : b = hb n k
    · subst e; rw [updL_at]; exact List.nodup_cons.2 ⟨hm, h.nodup _ hb1⟩
    · rw [updL_ne _ _ e]; exact h.nodup b hb2
  · by_cases e : b = hb n k
    · subst e
      rw [updL_at] at hj
      rcases List.mem_cons.1 hj with rfl | hj
      · exact ⟨hk, rfl⟩
      · exact h.mem _ hb1 j hj
    · rw [updL_ne _ _ e] at hj; exact h.mem b hb2 j hj
theorem mem_split {k : Nat} {l : List Nat} (h : k ∈ l) : ∃ A C, l = A ++ k :: C ∧ k ∉ A := by
  induction l with
  | nil => simp at h
  | cons j l ih =>
    by_cases e : j = k
    · subst e; exact ⟨[], l, rfl, by simp⟩
    · obtain ⟨A, C, rfl, hA⟩ := ih (by rcases List.mem_cons.1 h with h | h; exact absurd h.symm e; exact h)
      exact ⟨j :: A, C, rfl, by simp [hA]; exact fun q => e q.symm⟩
/-- what an item taken out leaves: where its bucket begins, what leads to what -/
def delH (H : List Int) (b : Nat) (A C : List Nat) : List Int := if A = [] then H.set b (headI C) else H
def delN (nx : Nat → Int) (A C : List Nat) (k : Nat) : Nat → Int := upd (match A.getLast? with
  | none => nx
  | some j => upd nx j (headI C)) k (-1)
theorem TI.delete (h : TI nx n H L) {k : Nat} {A C : List Nat} (hb1 : hb n k < n) (e : L (hb n k) = A ++ k :: C) : TI (delN nx A C k) n (delH H (hb n k) A C) (updL L (hb n k) (A ++ C)) := by
  have hn := h.nodup _ hb1
  have hc := h.chain _ hb1
  have hm := h.mem _ hb1
  rw [e] at hn hc hm
  have hlen : (delH H (hb n k) A C).length = H.length := by unfold delH; split; exact List.length_set; rfl
  have kA : k ∉ A := fun q => (List.nodup_append.1 hn).2.2 k q k (by simp) rfl
  have kC : k ∉ C := (List.nodup_cons.1 (List.nodup_append.1 hn).2.1).1
  refine ⟨h.pow, by rw [hlen]; exact h.len, fun b hb2 => ?_, fun b hb2 => ?_, fun b hb2 => ?_, fun b hb2 j hj => ?_⟩
  · unfold delH
    by_cases ea : A = []
    · subst ea
      rw [if_pos rfl, getD_set _ _ _ (by rw [h.len]; exact hb1)]
      by_cases eb : b = hb n k
      · subst eb; rw [if_pos rfl, updL_at]; rfl
      · rw [if_neg eb, updL_ne _ _ eb]; exact h.heads b hb2
    · rw [if_neg ea]
      by_cases eb : b = hb n k
      · subst eb
        rw [updL_at, h.heads _ hb2, e]
        cases A with
        | nil => exact absurd rfl ea
        | cons a A => rfl
      · rw [updL_ne _ _ eb]; exact h.heads b hb2
  · by_cases eb : b = hb n k
    · subst eb
      rw [updL_at]
      unfold delN
      rcases List.eq_nil_or_concat A with rfl | ⟨A', j, rfl⟩
      · exact (hc.2).keep kC
      · rw [List.concat_eq_append] at *
        have el : (A' ++ [j]).getLast? = some j := by simp
        rw [el]
        have e2 : A' ++ [j] ++ k :: C = A' ++ j :: k :: C := by simp
        rw [e2] at hc hn
        have := hc.cut hn
        have e3 : A' ++ j :: C = A' ++ [j] ++ C := by simp
        rw [e3] at this
        exact this.keep fun q => by
          rcases List.mem_append.1 q with q | q
          · exact kA q
          · exact kC q
    · rw [updL_ne _ _ eb]
      unfold delN
      have hk2 : k ∉ L b := fun q => eb (h.mem b hb2 k q).2.symm
      rcases List.eq_nil_or_concat A with rfl | ⟨A', j, rfl⟩
      · exact (h.chain b hb2).keep hk2
      · rw [List.concat_eq_append] at *
        have el : (A' ++ [j]).getLast? = some j := by simp
        rw [el]
        have hj2 : j ∉ L b := fun q => eb (by rw [← (h.mem b hb2 j q).2]; exact (hm j (by simp)).2)
        exact ((h.chain b hb2).keep hj2).keep hk2
  · by_cases eb : b = hb n k
    · subst eb
      rw [updL_at]
      exact (List.nodup_append.1 hn).2.1 |> fun q => by
        rw [List.nodup_append] at hn ⊢
        exact ⟨hn.1, (List.nodup_cons.1 q).2, fun x hx y hy => hn.2.2 x hx y (by simp [hy])⟩
    · rw [updL_ne _ _ eb]; exact h.nodup b hb2
  · by_cases eb : b = hb n k
    · subst eb
      rw [updL_at] at hj
      exact hm j (by rcases List.mem_append.1 hj with hj | hj <;> simp [hj])
    · rw [updL_ne _ _ eb] at hj; exact h.mem b hb2 j hj
/-- items of which none leads on -/
def offN (nx : Nat → Int) (l : List Nat) : Nat → Int := fun j => if j ∈ l then -1 else nx j
theorem Chain.off {l m : List Nat} (h : Chain nx l) (hd : ∀ k ∈ l, k ∉ m) : Chain (offN nx m) l := by
  induction l with
  | nil => trivial
  | cons k l ih => exact ⟨by show (if k ∈ m then _ else _) = _; rw [if_neg (hd k (by simp))]; exact h.1, ih h.2 fun j hj => hd j (by simp [hj])⟩
theorem TI.empty (h : TI nx n H L) {b : Nat} (hb1 : b < n) : TI (offN nx (L b)) n (H.set b (-1)) (updL L b []) := by
  refine ⟨h.pow, by rw [List.length_set]; exact h.len, fun c hc => ?_, fun c hc => ?_, fun c hc => ?_, fun c hc j hj => ?_⟩
  · rw [getD_set _ _ _ (by rw [h.len]; exact hb1)]
    by_cases e : c = b
    · subst e; rw [if_pos rfl, updL_at]; rfl
    · rw [if_neg e, updL_ne _ _ e]; exact h.heads c hc
  · by_cases e : c = b
    · subst e; rw [updL_at]; trivial
    · rw [updL_ne _ _ e]
      exact (h.chain c hc).off fun k h1 h2 => e (by rw [← (h.mem c hc k h1).2, (h.mem b hb1 k h2).2])
  · by_cases e : c = b
    · subst e; rw [updL_at]; exact List.nodup_nil
    · rw [updL_ne _ _ e]; exact h.nodup c hc
  · by_cases e : c = b
    · subst e; rw [updL_at] at hj; simp at hj
    · rw [updL_ne _ _ e] at hj; exact h.mem c hc j hj
/-- the item with a key, what leads to it -/
def found (L : Nat → List Nat) (n : Nat) (key : ByteArray) : Option Nat := (L ((num key % (n : Int)).toNat)).find? fun k => decide (keyS k = key)
theorem TI.found_key (h : TI nx n H L) {k : Nat} (hk : k < 30) : found L n (keyS k) = if k ∈ L (hb n k) then some k else none := by
  unfold found
  show (L (hb n k)).find? _ = _
  have hm := h.mem _ (hb_lt h.pow k)
  generalize L (hb n k) = l at hm
  induction l with
  | nil => rfl
  | cons j l ih =>
    rw [List.find?_cons]
    by_cases e : j = k
    · subst e; rw [decide_eq_true rfl, if_pos (by simp)]
    · rw [decide_eq_false (fun q => e (keyS_inj (hm j (by simp)).1 hk q)), ih fun j hj => hm j (by simp [hj])]
      have : (k ∈ j :: l) ↔ k ∈ l := by simp [Ne.symm e]
      simp only [this]
end Go.Proofs.Ytolpjgpimholcaa.ArenaPure

