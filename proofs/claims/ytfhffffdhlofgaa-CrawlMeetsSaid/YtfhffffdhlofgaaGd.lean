import Derived.Test.YtfhffffdhlofgaaGb
import Derived.Laws.Rows
import Derived.Test.YtfhffffdhlofgaaGa
import Derived.MapKept
import Derived.RangeFuncNested
import Derived.RangeFuncBound
import Derived.RangeFuncCalls
import Derived.RangeFuncLeaves
import Derived.RangeFuncBox
import Derived.Shelf.Abstract
import Derived.Shelf.RegionOpen
import Derived.WalkKit
import Derived.OwnWalkIn
import Derived.TacticsInMore
import Derived.LoopNIn
import Derived.LoopIn
import Derived.Maps.AppendAt
import Derived.Test.YtfhffffdhlofgaaGc
import Derived.Deep.CutBlock
import Derived.BigQuiet
import Derived.Deep.LoopGhost
import Derived.Deep.QuietTactic
/- Chapters 08 and 09 in plain words: fields of a header; queues of items that are linked by their headers' fields. No program in sight. -/
namespace Go.Proofs.Ytfhffffdhlofgaa.ArenaPure
open Go Go.RowKit Go.Proofs.Ytfhffffdhlofgaa.Mem Go.Proofs.Ytfhffffdhlofgaa.CodecPure Go.Proofs.Ytfhffffdhlofgaa.Codec Go.Proofs.Ytfhffffdhlofgaa.Arena
set_option linter.unusedVariables false
set_option maxRecDepth 100000

/-! ### fields of a header -/
/-- where a field lies in a header, and how wide it is -/
def fat (f : Int) : Int := if f < 4 then 4 * f else if f = 4 then 16 else if f < 7 then 4 * f + 4 else if f = 7 then 32 else 26 + f
def fw (f : Int) : Int := if f < 4 then 4 else if f = 4 then 8 else if f < 7 then 4 else if f = 7 then 2 else 1
def itemGet (s : St) (at_ f : Int) : Int × Int :=
  if f < 0 ∨ 11 < f ∨ f = 4 then (0, 6)
  else if at_ < 0 ∨ 1024 * (s.own.length : Int) < at_ then (0, 1)
  else if f ≤ 3 then place s (at_ + fat f) else number s (at_ + fat f) (fw f)
def itemSet (s : St) (at_ f v : Int) : St × Int :=
  if f < 0 ∨ 11 < f ∨ f = 4 then (s, 6)
  else if at_ < 0 ∨ 1024 * (s.own.length : Int) < at_ then (s, 1)
  else if f ≤ 3 then setPlace s (at_ + fat f) v
  else if v < 0 then (s, 6) else setNumber s (at_ + fat f) (fw f) v

/-! ### a place that is laid, and read -/
theorem splice_in (L X : List Int) (o a n : Nat) (h : o + X.length ≤ L.length) (h1 : o = a) (h2 : n = X.length) : ((splice L o X).drop a).take n = X := by
  subst h1 h2
  apply List.ext_getElem?
  intro i
  rw [List.getElem?_take]
  by_cases hi : i < X.length
  · rw [if_pos hi, List.getElem?_drop, splice_get _ _ _ h, if_pos (by omega), Nat.add_sub_cancel_left]
  · rw [if_neg hi, List.getElem?_eq_none (by omega)]
theorem splice_off (L X : List Int) (o a n : Nat) (h : o + X.length ≤ L.length) (hf : a + n ≤ o ∨ o + X.length ≤ a) : ((splice L o X).drop a).take n = (L.drop a).take n := by
  apply List.ext_getElem?
  intro i
  rw [List.getElem?_take, List.getElem?_take]
  by_cases hi : i < n
  · rw [if_pos hi, if_pos hi, List.getElem?_drop, List.getElem?_drop, splice_get _ _ _ h, if_neg (by omega)]
  · rw [if_neg hi, if_neg hi]
/-- a number that a place may be -/
def Pl (v : Int) : Prop := -1 ≤ v ∧ v ≤ 2147483647
theorem place_of (s : St) (x : Int) (h : within s x 4) : place s x = (if le (got s x 4) = 4294967295 then (-1, 0) else if le (got s x 4) ≥ 2147483648 then (0, 6) else (le (got s x 4), 0)) ∨ ¬ Ok s := by
  by_cases hs : Ok s
  · left
    have L := got_length hs h
    have e4 : (4 : Int).toNat = 4 := rfl
    unfold place
    rw [if_pos h]
    unfold getPlaceC
    rw [if_pos (show there (got s x 4).length 0 4 from ⟨.inr (.inr (.inl rfl)), by omega, by omega⟩)]
    have e : ((got s x 4).drop (0 : Int).toNat).take 4 = got s x 4 := by
      show (got s x 4).take 4 = _
      exact List.take_of_length_le (by omega)
    rw [e]
  · exact .inr hs
theorem place_eq {s : St} (hs : Ok s) {x : Int} (h : within s x 4) : place s x = (if le (got s x 4) = 4294967295 then (-1, 0) else if le (got s x 4) ≥ 2147483648 then (0, 6) else (le (got s x 4), 0)) :=
  (place_of s x h).resolve_right fun n => n hs
/-- the four bytes of a place -/
def pb4 (v : Int) : List Int := leb (v % 4294967296) 4
theorem pb4_length (v : Int) : (pb4 v).length = 4 := leb_length _ _
theorem pb4_bytes (v : Int) : Bytes (pb4 v) := leb_bytes _ _
theorem le_pb4 (v : Int) : le (pb4 v) = v % 4294967296 := by
  unfold pb4
  rw [le_leb]
  show v % 4294967296 % 4294967296 = _
  omega
/-- what lies where a place is read -/
theorem got_of_place {s : St} (hs : Ok s) {x v : Int} (h : within s x 4) (hp : place s x = (v, 0)) : got s x 4 = pb4 v ∧ Pl v := by
  rw [place_eq hs h] at hp
  have L := got_length hs h
  have e4 : (4 : Int).toNat = 4 := rfl
  have B := got_bytes hs x 4
  have R := le_range _ B
  have E := leb_le _ B
  rw [L, e4] at E R
  have p : (2 : Int) ^ (8 * 4) = 4294967296 := by decide +kernel
  rw [p] at R
  by_cases h1 : le (got s x 4) = 4294967295
  · rw [if_pos h1] at hp
    have : v = -1 := by injection hp with a _; exact a.symm
    subst this
    refine ⟨?_, by decide, by decide⟩
    rw [← E, h1]; rfl
  · rw [if_neg h1] at hp
    by_cases h2 : le (got s x 4) ≥ 2147483648
    · rw [if_pos h2] at hp
      injection hp with _ b
      exact absurd b (by decide)
    · rw [if_neg h2] at hp
      have : v = le (got s x 4) := by injection hp with a _; exact a.symm
      subst this
      refine ⟨?_, by omega, by omega⟩
      unfold pb4
      rw [Int.emod_eq_of_lt (by omega) (by omega)]
      exact E.symm
theorem place_of_got {s : St} (hs : Ok s) {x v : Int} (h : within s x 4) (hv : Pl v) (hg : got s x 4 = pb4 v) : place s x = (v, 0) := by
  rw [place_eq hs h, hg, le_pb4]
  obtain ⟨h1, h2⟩ := hv
  by_cases e : v = -1
  · subst e; rfl
  · rw [if_neg (by omega), if_neg (by omega)]
    congr 1
    omega
theorem setPlace_eq {s : St} (hs : Ok s) {x v : Int} (h : within s x 4) (hv : Pl v) : setPlace s x v = (lay s x (pb4 v), 0) := by
  have L := got_length hs h
  have e4 : (4 : Int).toNat = 4 := rfl
  unfold setPlace
  rw [if_pos h]
  have e : putPlaceC (got s x 4) 0 v = (pb4 v, 0) := by
    unfold putPlaceC
    rw [if_pos (show there (got s x 4).length 0 4 from ⟨.inr (.inr (.inl rfl)), by omega, by omega⟩), if_neg (by unfold Pl at hv; omega)]
    show (splice (got s x 4) 0 _, (0 : Int)) = _
    rw [splice_whole _ _ (by rw [leb_length]; omega)]; rfl
  rw [e]
theorem within_own {s t : St} (h : t.own = s.own) (x n : Int) : within t x n ↔ within s x n := by
  unfold within
  rw [h]
theorem within_part {s : St} {x n : Int} (h : within s x n) (k m : Int) (hk : 0 ≤ k) (hm : 0 ≤ m) (hf : k + m ≤ n) (h0 : 0 < m) : within s (x + k) m := by
  obtain ⟨h1, h2, h3, h4, h5⟩ := h
  have e : (x + k) / 1024 = x / 1024 := by omega
  have e2 : (x + k) % 1024 = x % 1024 + k := by omega
  exact ⟨hm, by omega, by omega, by rw [e]; exact h4, by omega⟩
/-- a state that differs from another one in nothing but bytes -/
structure Lay (s t : St) (S : Nat → Prop) : Prop where
  ok : Ok t
  own : t.own = s.own
  out : ∀ i, ¬ S i → t.B[i]? = s.B[i]?
theorem Lay.refl {s : St} (h : Ok s) (S : Nat → Prop) : Lay s s S := ⟨h, rfl, fun _ _ => rfl⟩
theorem Lay.trans {s t u : St} {S : Nat → Prop} (h : Lay s t S) (k : Lay t u S) : Lay s u S := ⟨k.ok, k.own.trans h.own, fun i hi => (k.out i hi).trans (h.out i hi)⟩
theorem Lay.mono {s t : St} {S T : Nat → Prop} (h : Lay s t S) (hst : ∀ i, S i → T i) : Lay s t T := ⟨h.ok, h.own, fun i hi => h.out i fun hs => hi (hst i hs)⟩
theorem Lay.len {s t : St} {S : Nat → Prop} (hs : Ok s) (h : Lay s t S) : t.B.length = s.B.length := by rw [h.ok.len, hs.len, h.own]
theorem Lay.within {s t : St} {S : Nat → Prop} (h : Lay s t S) (x n : Int) : within t x n ↔ ArenaPure.within s x n := within_own h.own x n
theorem Lay.got {s t : St} {S : Nat → Prop} (h : Lay s t S) (x n : Int) (hx : 0 ≤ x) (hf : ∀ i : Nat, x ≤ i → (i : Int) < x + n → ¬ S i) : got t x n = ArenaPure.got s x n := by
  unfold ArenaPure.got
  apply List.ext_getElem?
  intro i
  rw [List.getElem?_take, List.getElem?_take]
  by_cases hi : i < n.toNat
  · rw [if_pos hi, if_pos hi, List.getElem?_drop, List.getElem?_drop]
    exact h.out _ (hf _ (by omega) (by omega))
  · rw [if_neg hi, if_neg hi]
theorem Lay.place {s t : St} {S : Nat → Prop} (h : Lay s t S) (x : Int) (hx : 0 ≤ x) (hf : ∀ i : Nat, x ≤ i → (i : Int) < x + 4 → ¬ S i) : place t x = ArenaPure.place s x := by
  unfold ArenaPure.place
  have e := h.within x 4
  by_cases hw : ArenaPure.within s x 4
  · rw [if_pos hw, if_pos (e.2 hw), h.got x 4 hx hf]
  · rw [if_neg hw, if_neg fun q => hw (e.1 q)]
/-- a place that is laid -/
theorem lay_place {s : St} (hs : Ok s) {x v : Int} (h : within s x 4) (hv : Pl v) : Lay s (lay s x (pb4 v)) (fun i => x ≤ i ∧ (i : Int) < x + 4) ∧ place (lay s x (pb4 v)) x = (v, 0) := by
  have M := in_row hs h
  have e4 : (4 : Int).toNat = 4 := rfl
  have h0 := h.2.1
  have O := lay_ok hs (at_ := x) (l := pb4 v) (by rw [pb4_length]; omega) (pb4_bytes v)
  refine ⟨⟨O, rfl, fun i hi => ?_⟩, ?_⟩
  · show (splice s.B x.toNat (pb4 v))[i]? = _
    rw [splice_get _ _ _ (by rw [pb4_length]; omega), if_neg (by rw [pb4_length]; omega)]
  · refine place_of_got O ((within_own rfl x 4).2 h) hv ?_
    show ((splice s.B x.toNat (pb4 v)).drop x.toNat).take (4 : Int).toNat = _
    exact splice_in _ _ _ _ _ (by rw [pb4_length]; omega) rfl (by rw [pb4_length]; rfl)
/-- two states with the same pages are the same where the bytes are -/
theorem st_ext {s t : St} (ho : s.own = t.own) (hb : ∀ i : Nat, s.B[i]? = t.B[i]?) : s = t := by
  cases s; cases t
  simp only at ho hb
  subst ho
  congr 1
  exact List.ext_getElem? hb
/-- the same place, the same bytes -/
theorem same_bytes {s t : St} (hs : Ok s) (ht : Ok t) (ho : s.own = t.own) {x v : Int} (h : within s x 4) (h1 : place s x = (v, 0)) (h2 : place t x = (v, 0)) (i : Nat) (hi : x ≤ i ∧ (i : Int) < x + 4) : s.B[i]? = t.B[i]? := by
  have g1 := (got_of_place hs h h1).1
  have g2 := (got_of_place ht ((within_own ho x 4).1 h) h2).1
  have h0 := h.2.1
  have e : (ArenaPure.got s x 4)[i - x.toNat]? = (ArenaPure.got t x 4)[i - x.toNat]? := by rw [g1, g2]
  unfold ArenaPure.got at e
  have e4 : (4 : Int).toNat = 4 := rfl
  rw [List.getElem?_take, List.getElem?_take, if_pos (by omega), if_pos (by omega), List.getElem?_drop, List.getElem?_drop] at e
  have z : x.toNat + (i - x.toNat) = i := by omega
  rw [z] at e
  exact e

/-! ### queues -/
def Apart (x y : Int) : Prop := x + 40 ≤ y ∨ y + 40 ≤ x
theorem Apart.symm {x y : Int} (h : Apart x y) : Apart y x := h.elim .inr .inl
/-- the bytes of the two fields of x that link it -/
def Fld (x : Int) (i : Nat) : Prop := x + 4 ≤ i ∧ (i : Int) < x + 12
/-- from p on the items of L are linked, and n comes behind the last one -/
def Lseg (s : St) (p : Int) (L : List Int) (n : Int) : Prop := match L with
  | [] => True
  | x :: xs => place s (x + 4) = (p, 0) ∧ place s (x + 8) = (xs.headD n, 0) ∧ Lseg s x xs n
/-- L is a queue, the youngest first, linked by its items' fields -/
structure LI (s : St) (L : List Int) : Prop where
  ok : Ok s
  hdr : ∀ x ∈ L, within s x 40
  apart : L.Pairwise Apart
  seg : Lseg s (-1) L (-1)
theorem hdr_pl {s : St} (hs : Ok s) {x : Int} (hh : within s x 40) : Pl x ∧ 0 ≤ x := by
  have := hs.high
  obtain ⟨_, h1, h2, _⟩ := hh
  unfold Pl
  omega
theorem LI.pl {s : St} {L : List Int} (h : LI s L) {x : Int} (hx : x ∈ L) : Pl x ∧ 0 ≤ x := hdr_pl h.ok (h.hdr x hx)
theorem LI.nodup {s : St} {L : List Int} (h : LI s L) : L.Nodup := h.apart.imp fun {a b} hab e => by subst e; unfold Apart at hab; omega
theorem hdr4 {s : St} {x : Int} (h : within s x 40) : within s (x + 4) 4 := within_part h 4 4 (by decide) (by decide) (by decide) (by decide)
theorem hdr8 {s : St} {x : Int} (h : within s x 40) : within s (x + 8) 4 := within_part h 8 4 (by decide) (by decide) (by decide) (by decide)
/-- a place set -/
def sp (s : St) (y v : Int) : St := (setPlace s y v).1
theorem sp_spec {s : St} (hs : Ok s) {y v : Int} (h : within s y 4) (hv : Pl v) : setPlace s y v = (sp s y v, 0) ∧ Lay s (sp s y v) (fun i => y ≤ i ∧ (i : Int) < y + 4) ∧ place (sp s y v) y = (v, 0) := by
  have e := setPlace_eq hs h hv
  have l := lay_place hs h hv
  unfold sp
  rw [e]
  exact ⟨rfl, l⟩
theorem seg_append (s : St) (A : List Int) : ∀ (p : Int) (C : List Int) (n : Int), Lseg s p (A ++ C) n ↔ Lseg s p A (C.headD n) ∧ Lseg s (A.getLastD p) C n := by
  induction A with
  | nil => intro p C n; simp [Lseg]
  | cons x xs ih =>
    intro p C n
    simp only [List.cons_append, Lseg, ih]
    have e : (xs ++ C).headD n = xs.headD (C.headD n) := by cases xs <;> simp
    have e2 : (x :: xs).getLastD p = xs.getLastD x := List.getLastD_cons
    rw [e, e2]
    constructor
    · rintro ⟨h1, h2, h3, h4⟩; exact ⟨⟨h1, h2, h3⟩, h4⟩
    · rintro ⟨⟨h1, h2, h3⟩, h4⟩; exact ⟨h1, h2, h3, h4⟩
theorem seg_frame {s t : St} {S : Nat → Prop} (h : Lay s t S) : ∀ (L : List Int) (p n : Int), (∀ x ∈ L, 0 ≤ x) → (∀ x ∈ L, ∀ i, Fld x i → ¬ S i) → Lseg s p L n → Lseg t p L n := by
  intro L
  induction L with
  | nil => intros; trivial
  | cons x xs ih =>
    intro p n h0 hS hl
    have hx := h0 x (by simp)
    have hSx := hS x (by simp)
    refine ⟨?_, ?_, ih x n (fun y hy => h0 y (by simp [hy])) (fun y hy => hS y (by simp [hy])) hl.2.2⟩
    · rw [h.place (x + 4) (by omega) fun i h1 h2 => hSx i ⟨h1, by omega⟩]; exact hl.1
    · rw [h.place (x + 8) (by omega) fun i h1 h2 => hSx i ⟨by omega, by omega⟩]; exact hl.2.1
theorem Apart.flds {x y : Int} (h : Apart x y) (i : Nat) (hi : Fld x i) : ¬ Fld y i := fun hy => by unfold Fld at *; unfold Apart at h; omega
/-- the same items, before and behind, with another next one: only the last item's field is set -/
theorem seg_next {s : St} (hs : Ok s) (A : List Int) (y p n m : Int) (hh : ∀ x ∈ A ++ [y], within s x 40) (ha : (A ++ [y]).Pairwise Apart) (hm : Pl m) (hl : Lseg s p (A ++ [y]) n) :
    Lseg (sp s (y + 8) m) p (A ++ [y]) m := by
  have hy := hh y (by simp)
  obtain ⟨_, k, e⟩ := sp_spec hs (hdr8 hy) hm
  have z := (hdr_pl hs hy).2
  rw [seg_append] at hl ⊢
  refine ⟨?_, ?_⟩
  · have hl1 : Lseg s p A y := hl.1
    show Lseg _ p A y
    refine seg_frame k A p y (fun x hx => (hdr_pl hs (hh x (by simp [hx]))).2) (fun x hx i hi => ?_) hl1
    have hap : Apart x y := (List.pairwise_append.1 ha).2.2 x hx y (by simp)
    unfold Fld at hi; unfold Apart at hap; omega
  · obtain ⟨h1, _, _⟩ := hl.2
    refine ⟨?_, e, trivial⟩
    rw [k.place (y + 4) (by omega) fun i h1 h2 => by omega]; exact h1
/-- .. with another one ahead: only the first item's field is set -/
theorem seg_prev {s : St} (hs : Ok s) (C : List Int) (y p q n : Int) (hh : ∀ x ∈ y :: C, within s x 40) (ha : (y :: C).Pairwise Apart) (hq : Pl q) (hl : Lseg s p (y :: C) n) :
    Lseg (sp s (y + 4) q) q (y :: C) n := by
  have hy := hh y (by simp)
  obtain ⟨_, k, e⟩ := sp_spec hs (hdr4 hy) hq
  have z := (hdr_pl hs hy).2
  obtain ⟨_, h2, h3⟩ := hl
  refine ⟨e, ?_, ?_⟩
  · rw [k.place (y + 8) (by omega) fun i h1 h2 => by omega]; exact h2
  · refine seg_frame k C y n (fun x hx => (hdr_pl hs (hh x (by simp [hx]))).2) (fun x hx i hi => ?_) h3
    have hap : Apart y x := (List.pairwise_cons.1 ha).1 x hx
    unfold Fld at hi; unfold Apart at hap; omega
theorem Lay.hdr {s t : St} {S : Nat → Prop} (h : Lay s t S) {x : Int} (hx : ArenaPure.within s x 40) : ArenaPure.within t x 40 := (h.within x 40).2 hx
/-- an item laid in between A and C -/
def putS (s : St) (prev at_ after : Int) : St :=
  let s1 := if prev = -1 then s else sp s (prev + 8) at_
  let s2 := sp s1 (at_ + 4) prev
  let s3 := sp s2 (at_ + 8) after
  if after = -1 then s3 else sp s3 (after + 4) at_
/-- the fields of all items of L -/
def Flds (L : List Int) (i : Nat) : Prop := ∃ x ∈ L, Fld x i
theorem put_seg {s : St} {A C : List Int} {at_ : Int} (h : LI s (A ++ C)) (hat : within s at_ 40) (hap : ∀ x ∈ A ++ C, Apart x at_) :
    LI (putS s (A.getLastD (-1)) at_ (C.headD (-1))) (A ++ at_ :: C) ∧ Lay s (putS s (A.getLastD (-1)) at_ (C.headD (-1))) (Flds (A ++ at_ :: C)) := by
  have hs := h.ok
  have hsg := (seg_append s A (-1) C (-1)).1 h.seg
  obtain ⟨pA, pC, pAC⟩ := List.pairwise_append.1 h.apart
  have pat := (hdr_pl hs hat)
  -- the item ahead
  obtain ⟨s1, e1, k1, g1, g1'⟩ : ∃ s1, (if A.getLastD (-1) = -1 then s else sp s (A.getLastD (-1) + 8) at_) = s1 ∧ Lay s s1 (Flds A) ∧ Lseg s1 (-1) A at_ ∧ Lseg s1 (A.getLastD (-1)) C (-1) := by
    rcases List.eq_nil_or_concat A with rfl | ⟨A', y, rfl⟩
    · exact ⟨s, rfl, Lay.refl hs _, trivial, hsg.2⟩
    · rw [List.concat_eq_append] at *
      have el : (A' ++ [y]).getLastD (-1) = y := by simp
      have hy := h.hdr y (by simp)
      have py := hdr_pl hs hy
      rw [el] at hsg ⊢
      have ne : y ≠ -1 := by omega
      refine ⟨_, if_neg ne, ?_, seg_next hs A' y (-1) _ at_ (fun x hx => h.hdr x (by simp at hx ⊢; rcases hx with hx | hx <;> simp [hx])) pA pat.1 hsg.1, ?_⟩
      · exact (sp_spec hs (hdr8 hy) pat.1).2.1.mono fun i hi => ⟨y, by simp, by unfold Fld; omega⟩
      · refine seg_frame (sp_spec hs (hdr8 hy) pat.1).2.1 C y (-1) (fun x hx => (hdr_pl hs (h.hdr x (by simp [hx]))).2) (fun x hx i hi => ?_) hsg.2
        have := pAC y (by simp) x hx
        unfold Apart at this; unfold Fld at hi; omega
  have hs1 := k1.ok
  have plp : Pl (A.getLastD (-1)) := by
    rcases List.eq_nil_or_concat A with rfl | ⟨A', y, rfl⟩
    · exact ⟨by decide, by decide⟩
    · rw [List.concat_eq_append] at *
      have el : (A' ++ [y]).getLastD (-1) = y := by simp
      rw [el]; exact (hdr_pl hs (h.hdr y (by simp))).1
  have pla : Pl (C.headD (-1)) := by
    cases C with
    | nil => exact ⟨by decide, by decide⟩
    | cons z C' => exact (hdr_pl hs (h.hdr z (by simp))).1
  -- the item's own fields
  have w1 := k1.hdr hat
  obtain ⟨_, k2, q2⟩ := sp_spec hs1 (hdr4 w1) plp
  have w2 := k2.hdr w1
  obtain ⟨_, k3, q3⟩ := sp_spec k2.ok (hdr8 w2) pla
  obtain ⟨s2, e2⟩ : ∃ s2, sp s1 (at_ + 4) (A.getLastD (-1)) = s2 := ⟨_, rfl⟩
  rw [e2] at k2 q2 k3 q3
  obtain ⟨s3, e3⟩ : ∃ s3, sp s2 (at_ + 8) (C.headD (-1)) = s3 := ⟨_, rfl⟩
  rw [e3] at k3 q3
  have k13 : Lay s1 s3 (Fld at_) := (k2.mono fun i hi => by unfold Fld; omega).trans (k3.mono fun i hi => by unfold Fld; omega)
  have r4 : place s3 (at_ + 4) = (A.getLastD (-1), 0) := by rw [k3.place (at_ + 4) (by omega) fun i h1 h2 => by omega]; exact q2
  have far : ∀ x ∈ A ++ C, ∀ i, Fld x i → ¬ Fld at_ i := fun x hx i hi => (hap x hx).flds i hi
  have gA : Lseg s3 (-1) A at_ := seg_frame k13 A _ _ (fun x hx => (hdr_pl hs (h.hdr x (by simp [hx]))).2) (fun x hx => far x (by simp [hx])) g1
  have gC : Lseg s3 (A.getLastD (-1)) C (-1) := seg_frame k13 C _ _ (fun x hx => (hdr_pl hs (h.hdr x (by simp [hx]))).2) (fun x hx => far x (by simp [hx])) g1'
  have k03 : Lay s s3 (Flds (A ++ at_ :: C)) := (k1.mono fun i ⟨x, hx, hi⟩ => ⟨x, by simp [hx], hi⟩).trans (k13.mono fun i hi => ⟨at_, by simp, hi⟩)
  have hall : ∀ x ∈ A ++ at_ :: C, within s x 40 := fun x hx => by
    simp only [List.mem_append, List.mem_cons] at hx
    rcases hx with hx | rfl | hx
    · exact h.hdr x (by simp [hx])
    · exact hat
    · exact h.hdr x (by simp [hx])
  have pall : (A ++ at_ :: C).Pairwise Apart := by
    refine List.pairwise_append.2 ⟨pA, List.pairwise_cons.2 ⟨fun x hx => (hap x (by simp [hx])).symm, pC⟩, fun x hx y hy => ?_⟩
    simp only [List.mem_cons] at hy
    rcases hy with rfl | hy
    · exact hap x (by simp [hx])
    · exact pAC x hx y hy
  have main : putS s (A.getLastD (-1)) at_ (C.headD (-1)) = if C.headD (-1) = -1 then s3 else sp s3 (C.headD (-1) + 4) at_ := by
    unfold putS
    simp only
    rw [e1, e2, e3]
  rw [main]
  cases C with
  | nil =>
    have en : ([] : List Int).headD (-1) = -1 := rfl
    rw [if_pos en]
    refine ⟨⟨k03.ok, fun x hx => k03.hdr (hall x hx), pall, ?_⟩, k03⟩
    rw [seg_append]
    exact ⟨gA, r4, q3, trivial⟩
  | cons z C' =>
    have hz := h.hdr z (by simp)
    have pz := hdr_pl hs hz
    have ez : (z :: C').headD (-1) = z := rfl
    rw [ez] at q3 ⊢
    rw [if_neg (by omega)]
    have wz := k03.hdr hz
    obtain ⟨_, k4, q4⟩ := sp_spec k03.ok (hdr4 wz) pat.1
    have apz : Apart z at_ := hap z (by simp)
    have k04 := k03.trans (k4.mono fun i hi => ⟨z, by simp, by unfold Fld; omega⟩)
    refine ⟨⟨k4.ok, fun x hx => k04.hdr (hall x hx), pall, ?_⟩, k04⟩
    rw [seg_append]
    refine ⟨?_, ?_, ?_, ?_⟩
    · refine seg_frame k4 A _ _ (fun x hx => (hdr_pl hs (h.hdr x (by simp [hx]))).2) (fun x hx i hi => ?_) gA
      have := pAC x hx z (by simp)
      unfold Apart at this; unfold Fld at hi; omega
    · rw [k4.place (at_ + 4) (by omega) fun i h1 h2 => by unfold Apart at apz; omega]; exact r4
    · rw [k4.place (at_ + 8) (by omega) fun i h1 h2 => by unfold Apart at apz; omega]; exact q3
    · exact seg_prev k03.ok C' z _ at_ (-1) (fun x hx => k03.hdr (h.hdr x (by simp at hx ⊢; rcases hx with hx | hx <;> simp [hx]))) pC pat.1 gC
/-- an item taken out from in between -/
def delS (s : St) (prev at_ after : Int) : St :=
  let s1 := if prev = -1 then s else sp s (prev + 8) after
  let s2 := if after = -1 then s1 else sp s1 (after + 4) prev
  sp (sp s2 (at_ + 4) (-1)) (at_ + 8) (-1)
theorem del_seg {s : St} {A C : List Int} {at_ : Int} (h : LI s (A ++ at_ :: C)) :
    LI (delS s (A.getLastD (-1)) at_ (C.headD (-1))) (A ++ C) ∧ Lay s (delS s (A.getLastD (-1)) at_ (C.headD (-1))) (Flds (A ++ at_ :: C)) ∧
      place (delS s (A.getLastD (-1)) at_ (C.headD (-1))) (at_ + 4) = (-1, 0) ∧ place (delS s (A.getLastD (-1)) at_ (C.headD (-1))) (at_ + 8) = (-1, 0) := by
  have hs := h.ok
  have hat := h.hdr at_ (by simp)
  have hsg := (seg_append s A (-1) (at_ :: C) (-1)).1 h.seg
  obtain ⟨pA, pC0, pAC0⟩ := List.pairwise_append.1 h.apart
  obtain ⟨pc, pC⟩ := List.pairwise_cons.1 pC0
  have pAC : ∀ x ∈ A, ∀ y ∈ C, Apart x y := fun x hx y hy => pAC0 x hx y (by simp [hy])
  have hap : ∀ x ∈ A ++ C, Apart x at_ := fun x hx => by
    rcases List.mem_append.1 hx with hx | hx
    · exact pAC0 x hx at_ (by simp)
    · exact (pc x hx).symm
  have pat := hdr_pl hs hat
  have hm1 : Pl (-1) := ⟨by decide, by decide⟩
  have pla : Pl (C.headD (-1)) := by
    cases C with
    | nil => exact hm1
    | cons z C' => exact (hdr_pl hs (h.hdr z (by simp))).1
  have plp : Pl (A.getLastD (-1)) := by
    rcases List.eq_nil_or_concat A with rfl | ⟨A', y, rfl⟩
    · exact hm1
    · rw [List.concat_eq_append] at *
      have el : (A' ++ [y]).getLastD (-1) = y := by simp
      rw [el]; exact (hdr_pl hs (h.hdr y (by simp))).1
  have hsC : Lseg s at_ C (-1) := hsg.2.2.2
  obtain ⟨s1, e1, k1, g1, g1'⟩ : ∃ s1, (if A.getLastD (-1) = -1 then s else sp s (A.getLastD (-1) + 8) (C.headD (-1))) = s1 ∧ Lay s s1 (Flds A) ∧ Lseg s1 (-1) A (C.headD (-1)) ∧ Lseg s1 at_ C (-1) := by
    rcases List.eq_nil_or_concat A with rfl | ⟨A', y, rfl⟩
    · exact ⟨s, rfl, Lay.refl hs _, trivial, hsC⟩
    · rw [List.concat_eq_append] at *
      have el : (A' ++ [y]).getLastD (-1) = y := by simp
      have hy := h.hdr y (by simp)
      have py := hdr_pl hs hy
      rw [el]
      have ne : y ≠ -1 := by omega
      refine ⟨_, if_neg ne, ?_, seg_next hs A' y (-1) _ _ (fun x hx => h.hdr x (by simp at hx ⊢; rcases hx with hx | hx <;> simp [hx])) pA pla hsg.1, ?_⟩
      · exact (sp_spec hs (hdr8 hy) pla).2.1.mono fun i hi => ⟨y, by simp, by unfold Fld; omega⟩
      · refine seg_frame (sp_spec hs (hdr8 hy) pla).2.1 C at_ (-1) (fun x hx => (hdr_pl hs (h.hdr x (by simp [hx]))).2) (fun x hx i hi => ?_) hsC
        have := pAC y (by simp) x hx
        unfold Apart at this; unfold Fld at hi; omega
  obtain ⟨s2, e2, k2, g2, g2'⟩ : ∃ s2, (if C.headD (-1) = -1 then s1 else sp s1 (C.headD (-1) + 4) (A.getLastD (-1))) = s2 ∧ Lay s1 s2 (Flds C) ∧ Lseg s2 (-1) A (C.headD (-1)) ∧ Lseg s2 (A.getLastD (-1)) C (-1) := by
    cases C with
    | nil => exact ⟨s1, rfl, Lay.refl k1.ok _, g1, trivial⟩
    | cons z C' =>
      have hz := k1.hdr (h.hdr z (by simp))
      have pz := hdr_pl hs (h.hdr z (by simp))
      have ez : (z :: C').headD (-1) = z := rfl
      rw [ez] at g1 ⊢
      have kz := (sp_spec k1.ok (hdr4 hz) plp).2.1
      refine ⟨_, if_neg (by omega), kz.mono fun i hi => ⟨z, by simp, by unfold Fld; omega⟩, ?_, seg_prev k1.ok C' z _ _ (-1) (fun x hx => k1.hdr (h.hdr x (by simp at hx ⊢; rcases hx with hx | hx <;> simp [hx]))) pC plp g1'⟩
      refine seg_frame kz A _ _ (fun x hx => (hdr_pl hs (h.hdr x (by simp [hx]))).2) (fun x hx i hi => ?_) g1
      have := pAC x hx z (by simp)
      unfold Apart at this; unfold Fld at hi; omega
  have w2 := k2.hdr (k1.hdr hat)
  obtain ⟨_, k3, q3⟩ := sp_spec k2.ok (hdr4 w2) hm1
  have w3 := k3.hdr w2
  obtain ⟨_, k4, q4⟩ := sp_spec k3.ok (hdr8 w3) hm1
  have main : delS s (A.getLastD (-1)) at_ (C.headD (-1)) = sp (sp s2 (at_ + 4) (-1)) (at_ + 8) (-1) := by
    unfold delS
    simp only
    rw [e1, e2]
  rw [main]
  have k24 : Lay s2 (sp (sp s2 (at_ + 4) (-1)) (at_ + 8) (-1)) (Fld at_) := (k3.mono fun i hi => by unfold Fld; omega).trans (k4.mono fun i hi => by unfold Fld; omega)
  have k02 : Lay s s2 (Flds (A ++ at_ :: C)) := (k1.mono fun i ⟨x, hx, hi⟩ => ⟨x, by simp [hx], hi⟩).trans (k2.mono fun i ⟨x, hx, hi⟩ => ⟨x, by simp [hx], hi⟩)
  have k04 := k02.trans (k24.mono fun i hi => ⟨at_, by simp, hi⟩)
  have far : ∀ x ∈ A ++ C, ∀ i, Fld x i → ¬ Fld at_ i := fun x hx i hi => (hap x hx).flds i hi
  refine ⟨⟨k04.ok, fun x hx => k04.hdr (h.hdr x ?_), List.pairwise_append.2 ⟨pA, pC, pAC⟩, ?_⟩, k04, ?_, q4⟩
  · rcases List.mem_append.1 hx with hx | hx <;> simp [hx]
  · rw [seg_append]
    exact ⟨seg_frame k24 A _ _ (fun x hx => (hdr_pl hs (h.hdr x (by simp [hx]))).2) (fun x hx => far x (by simp [hx])) g2, seg_frame k24 C _ _ (fun x hx => (hdr_pl hs (h.hdr x (by simp [hx]))).2) (fun x hx => far x (by simp [hx])) g2'⟩
  · rw [k4.place (at_ + 4) (by omega) fun i h1 h2 => by omega]; exact q3
/-- the two fields of one item of a queue -/
theorem LI.fields {s : St} {A C : List Int} {x : Int} (h : LI s (A ++ x :: C)) : place s (x + 4) = (A.getLastD (-1), 0) ∧ place s (x + 8) = (C.headD (-1), 0) := by
  have := ((seg_append s A (-1) (x :: C) (-1)).1 h.seg).2
  exact ⟨this.1, this.2.1⟩

end Go.Proofs.Ytfhffffdhlofgaa.ArenaPure

/- Fields of an item's header: the program's spots, place, Get, Set and the reference's where, Get, Set: what each answers, and what it writes. -/
namespace Go.Proofs.Ytfhffffdhlofgaa.Item
open Go Go.RowKit Go.Proofs.Ytfhffffdhlofgaa.Mem Go.Proofs.Ytfhffffdhlofgaa.CodecPure Go.Proofs.Ytfhffffdhlofgaa.ArenaPure Go.Proofs.Ytfhffffdhlofgaa.Codec Go.Proofs.Ytfhffffdhlofgaa.Arena
set_option linter.unusedVariables false
set_option maxRecDepth 100000
variable {w w' : World} {a : Ar} {s : St}
/-- all places and widths of fields -/
def SP : Array Value := #[.int .i64 0, .int .i64 4, .int .i64 4, .int .i64 4, .int .i64 8, .int .i64 4, .int .i64 12, .int .i64 4, .int .i64 16, .int .i64 8, .int .i64 24, .int .i64 4, .int .i64 28, .int .i64 4, .int .i64 32, .int .i64 2, .int .i64 34, .int .i64 1, .int .i64 35, .int .i64 1, .int .i64 36, .int .i64 1, .int .i64 37, .int .i64 1]
theorem wpList_build_all {P : Program} {ops : Array Oper} {rest : List Oper} {o : Oper} {a : Act} {w : World} {Q : Exit → Act → World → Prop} (hg : o.guard = none) (t : TypeId) (parts : Array (Nat × Operand)) (ho : o.op = .build t parts)
    (cells : Array Value) (hf : P.built t (parts.map fun (i, x) => (i, a.eval x)).toList = some cells)
    (h : wpList P ops Q rest (a.put o.dst (.agg cells)) w) : wpList P ops Q (o :: rest) a w :=
  wpList_build hg t parts ho (by rw [hf]; rfl) (by rw [hf]; exact h)
def Z24 : Array Value := #[.int .i64 0, .int .i64 0, .int .i64 0, .int .i64 0, .int .i64 0, .int .i64 0, .int .i64 0, .int .i64 0, .int .i64 0, .int .i64 0, .int .i64 0, .int .i64 0, .int .i64 0, .int .i64 0, .int .i64 0, .int .i64 0, .int .i64 0, .int .i64 0, .int .i64 0, .int .i64 0, .int .i64 0, .int .i64 0, .int .i64 0, .int .i64 0]
set_option maxHeartbeats 1000000 in
theorem spots_calls (w : World) : Calls Try.prog 57 #[] w fun e w' => e = .returned (.agg SP) ∧ Chg (fun _ => False) w w' := by
  have hb : Hid ((w.alloc (.cells Z24 86)).heap[w.heap.size]? = some (.cells Z24 86 (0, 0))) := heap_alloc_at w _
  have F : Hid (∀ e w', e = Ending.returned (.agg SP) → w' = (w.alloc (.cells Z24 86)).setRow w.heap.size SP → e = Ending.returned (.agg SP) ∧ Chg (fun _ => False) w w') := fun e w' he hw => by
    subst hw
    refine ⟨he, ((Chg.alloc _ w _).trans (Chg.setRow (S := fun b => b = w.heap.size) _ _ _ rfl)).mono fun i h1 h2 => by omega⟩
  have hr : Hid (((w.alloc (.cells Z24 86)).setRow w.heap.size SP).heap[w.heap.size]? = some (.cells SP 86 (0, 0))) := setRow_heap _ _ _ _ _ (0, 0) hb.out
  go_enter Try.func57, Try.ntmps57
  go_wp2_with (first | (refine wpList_build_all rfl 86 _ rfl SP (by kernel_rfl) ?_) | (refine wpList_store_row rfl 86 (.tmp 0) (.tmp 13) rfl w.heap.size SP rfl rfl 86 Z24 hb.out (by kernel_rfl) rfl (by kernel_rfl) ?_))
  exact bodyPost_ret (v := .agg SP) (results_cell_row rfl _ _ w.heap.size 86 SP (0, 0) _ rfl hr.out Try.underlying86 rfl (by kernel_rfl)) rfl (F.out _ _ rfl rfl)
theorem place_yes (n : Int) (w : World) (h : n ≤ 3) : Calls Try.prog 58 #[(.int .i64 n)] w fun e w' => e = .returned (.bool true) ∧ w = w' := by
  go_enter Try.func58, Try.ntmps58
  go_wp2
  go_ret
  exact ⟨rfl, rfl⟩
theorem place_no (n : Int) (w : World) (h : 3 < n) : Calls Try.prog 58 #[(.int .i64 n)] w fun e w' => e = .returned (.bool false) ∧ w = w' := by
  go_enter Try.func58, Try.ntmps58
  go_wp2
  go_ret
  exact ⟨retb (decide_eq_false (by omega)), rfl⟩
theorem number_range (hs : Ok s) (at_ w : Int) (hw : w ≤ 4) : 0 ≤ (number s at_ w).1 ∧ (number s at_ w).1 < 4294967296 := by
  unfold number
  by_cases h : within s at_ w
  · rw [if_pos h]
    unfold getC
    split
    · rename_i ht
      have R := le_range (((got s at_ w).drop (0 : Int).toNat).take w.toNat) (fun x hx => got_bytes hs at_ w x (List.mem_of_mem_drop (List.mem_of_mem_take hx)))
      refine ⟨R.1, Int.lt_of_lt_of_le R.2 ?_⟩
      have hl : (((got s at_ w).drop (0 : Int).toNat).take w.toNat).length ≤ 4 := by rw [List.length_take]; omega
      generalize (((got s at_ w).drop (0 : Int).toNat).take w.toNat).length = n at hl
      have key : ∀ m : Fin 5, (2 : Int) ^ (8 * m.val) ≤ 4294967296 := by decide +kernel
      exact key ⟨n, by omega⟩
    · exact ⟨Int.le_refl _, by decide⟩
  · rw [if_neg h]
    exact ⟨Int.le_refl _, by decide⟩
theorem index_spot (f : Int) (h0 : 0 ≤ f) (h1 : f ≤ 11) : ∀ W : World, (Instr.index 86 (.agg SP) (.int .i64 f)).run Try.prog W = .ok (.agg #[.int .i64 (fat f), .int .i64 (fw f)]) W := by
  have h : f = 0 ∨ f = 1 ∨ f = 2 ∨ f = 3 ∨ f = 4 ∨ f = 5 ∨ f = 6 ∨ f = 7 ∨ f = 8 ∨ f = 9 ∨ f = 10 ∨ f = 11 := by omega
  rcases h with rfl | rfl | rfl | rfl | rfl | rfl | rfl | rfl | rfl | rfl | rfl | rfl
  all_goals exact fun W => by kernel_rfl
/-- two answers, numbers; nothing that was there has turned -/
def Ans2 (w : World) (x y : Int) (e : Ending) (w' : World) : Prop := e = .returned (.tuple #[.int .i64 x, .int .i64 y]) ∧ Chg (fun _ => False) w w'
theorem fat_range (f : Int) (h0 : 0 ≤ f) (h1 : f ≤ 11) : 0 ≤ fat f ∧ fat f ≤ 37 := by
  unfold fat
  split <;> (try split) <;> (try split) <;> (try split) <;> omega
theorem get_calls (hl : Lies w a s) (at_ f : Int) (hx : -9223372036854775808 ≤ at_ ∧ at_ ≤ 9223372036854775807) :
    Calls Try.prog 22 #[(.pointer (some ⟨a.g, 0, none⟩)), (.int .i64 at_), (.int .i64 f)] w (Ans2 w (itemGet s at_ f).1 (itemGet s at_ f).2) := by
  unfold itemGet
  by_cases hf : f < 0 ∨ 11 < f ∨ f = 4
  · rw [if_pos hf]
    have R : Hid (∀ e w', e = Ending.returned (.tuple #[.int .i64 0, .int .i64 6]) → w = w' → Ans2 w 0 6 e w') := fun e w' he hw => by subst hw; exact ⟨he, Chg.refl _ _⟩
    clear hl
    rcases hf with h | h | rfl
    · go_enter Try.func22, Try.ntmps22
      go_wp2
      go_ret2
      exact R.out _ _ rfl rfl
    · have h' : ¬ f < 0 := by omega
      go_enter Try.func22, Try.ntmps22
      go_wp2
      go_ret2
      exact R.out _ _ rfl rfl
    · go_enter Try.func22, Try.ntmps22
      go_wp2
      go_ret2
      exact R.out _ _ rfl rfl
  rw [if_neg hf]
  have r1 := hl.ok.high
  have PC := Lib.hid (pages_calls hl)
  by_cases ha : at_ < 0 ∨ 1024 * (s.own.length : Int) < at_
  · rw [if_pos ha]
    have R : Hid (∀ e w', e = Ending.returned (.tuple #[.int .i64 0, .int .i64 1]) → w = w' → Ans2 w 0 1 e w') := fun e w' he hw => by subst hw; exact ⟨he, Chg.refl _ _⟩
    have f1 : ¬ f < 0 := by omega
    have f2 : ¬ 11 < f := by omega
    have f3 : (f == 4) = false := by rw [beq_eq_false_iff_ne]; omega
    generalize s.own.length = N at PC r1 ha
    clear hl hf
    rcases ha with h | h
    · go_enter Try.func22, Try.ntmps22
      go_wp2
      go_ret2
      exact R.out _ _ rfl rfl
    · have h' : ¬ at_ < 0 := by omega
      have h2 : (N : Int) * 1024 < at_ := by omega
      go_enter Try.func22, Try.ntmps22
      go_wp2_with (go_at_call 56; refine (PC.out).mono ?_; rintro e w' ⟨rfl, rfl⟩)
      go_ret2
      exact R.out _ _ rfl rfl
  rw [if_neg ha]
  have IX := index_spot f (by omega) (by omega)
  have fr := fat_range f (by omega) (by omega)
  have f1 : ¬ f < 0 := by omega
  have f2 : ¬ 11 < f := by omega
  have f3 : (f == 4) = false := by rw [beq_eq_false_iff_ne]; omega
  have a1 : ¬ at_ < 0 := by omega
  have a2 : at_ ≤ (s.own.length : Int) * 1024 := by omega
  have a3 : at_ ≤ 32768 := by omega
  have H0 := Lib.hid hl
  by_cases h3 : f ≤ 3
  · rw [if_pos h3]
    have PL : Hid (∀ W, Lies W a s → Calls Try.prog 59 #[(.pointer (some ⟨a.g, 0, none⟩)), (.int .i64 (at_ + fat f))] W fun e w' => e = .returned (.tuple #[.int .i64 (place s (at_ + fat f)).1, .int .i64 (place s (at_ + fat f)).2]) ∧ W = w') := fun W h => place_calls h _ (by omega)
    have YP := Lib.hid (fun W => place_yes f W h3)
    generalize (place s (at_ + fat f)).1 = x1 at PL ⊢
    generalize (place s (at_ + fat f)).2 = x2 at PL ⊢
    generalize fat f = q at IX PL fr
    obtain ⟨fr1, fr2⟩ := fr
    generalize fw f = u at IX
    generalize s.own.length = N at PC r1 a2
    clear hl hf ha
    go_enter Try.func22, Try.ntmps22
    go_wp2_with (go_at_call 56; refine (PC.out).mono ?_; rintro e w' ⟨rfl, rfl⟩)
    refine (spots_calls w).mono ?_
    rintro e w1 ⟨rfl, c1⟩
    have C1 := Lib.hid c1
    clear c1
    generalize SP = sp at IX ⊢
    have H1 : Hid (Lies (w1.alloc (.cells #[.int .i64 q, .int .i64 u] 85)) a s) := H0.out.chg (C1.out.trans (Chg.alloc _ _ _)) id id fun _ _ => id
    go_wp2_with (first | (go_at_call 58; refine (YP.out _).mono ?_; rintro e w' ⟨rfl, rfl⟩) | (go_at_call 59; refine (PL.out _ H1.out).mono ?_; rintro e w' ⟨rfl, rfl⟩))
    go_ret2
    exact ⟨rfl, C1.out.trans (Chg.alloc _ _ _)⟩
  · rw [if_neg h3]
    have NL : Hid (∀ W, Lies W a s → Calls Try.prog 60 #[(.pointer (some ⟨a.g, 0, none⟩)), (.int .i64 (at_ + fat f)), (.int .i64 (fw f))] W fun e w' => e = .returned (.tuple #[.int .u64 (number s (at_ + fat f) (fw f)).1, .int .i64 (number s (at_ + fat f) (fw f)).2]) ∧ W = w') := fun W h => number_calls h _ _ (by omega)
    have YP := Lib.hid (fun W => place_no f W (by omega))
    have nr := number_range hl.ok (at_ + fat f) (fw f) (by unfold fw; split <;> (try split) <;> (try split) <;> (try split) <;> omega)
    generalize (number s (at_ + fat f) (fw f)).1 = x1 at NL nr ⊢
    generalize (number s (at_ + fat f) (fw f)).2 = x2 at NL ⊢
    generalize fat f = q at IX NL fr
    obtain ⟨fr1, fr2⟩ := fr
    generalize fw f = u at IX NL
    generalize s.own.length = N at PC r1 a2
    obtain ⟨nr1, nr2⟩ := nr
    have h3' : 3 < f := by omega
    clear hl hf ha h3
    go_enter Try.func22, Try.ntmps22
    go_wp2_with (go_at_call 56; refine (PC.out).mono ?_; rintro e w' ⟨rfl, rfl⟩)
    refine (spots_calls w).mono ?_
    rintro e w1 ⟨rfl, c1⟩
    have C1 := Lib.hid c1
    clear c1
    generalize SP = sp at IX ⊢
    have H1 : Hid (Lies (w1.alloc (.cells #[.int .i64 q, .int .i64 u] 85)) a s) := H0.out.chg (C1.out.trans (Chg.alloc _ _ _)) id id fun _ _ => id
    go_wp2_with (first | (go_at_call 58; refine (YP.out _).mono ?_; rintro e w' ⟨rfl, rfl⟩) | (go_at_call 60; refine (NL.out _ H1.out).mono ?_; rintro e w' ⟨rfl, rfl⟩))
    go_ret2
    exact ⟨rfl, C1.out.trans (Chg.alloc _ _ _)⟩
theorem set_calls (hl : Lies w a s) (at_ f v : Int) (hx : -9223372036854775808 ≤ at_ ∧ at_ ≤ 9223372036854775807) (hv : -9223372036854775808 ≤ v ∧ v ≤ 9223372036854775807) :
    Calls Try.prog 53 #[(.pointer (some ⟨a.g, 0, none⟩)), (.int .i64 at_), (.int .i64 f), (.int .i64 v)] w (Now w a (itemSet s at_ f v).1 (itemSet s at_ f v).2) := by
  unfold itemSet
  by_cases hf : f < 0 ∨ 11 < f ∨ f = 4
  · rw [if_pos hf]
    have R : Hid (∀ e w', e = Ending.returned (.int .i64 6) → w = w' → Now w a s 6 e w') := fun e w' he hw => by subst hw; exact ⟨he, hl, Chg.refl _ _⟩
    clear hl
    rcases hf with h | h | rfl
    · go_enter Try.func53, Try.ntmps53
      go_wp2
      go_ret
      exact R.out _ _ rfl rfl
    · have h' : ¬ f < 0 := by omega
      go_enter Try.func53, Try.ntmps53
      go_wp2
      go_ret
      exact R.out _ _ rfl rfl
    · go_enter Try.func53, Try.ntmps53
      go_wp2
      go_ret
      exact R.out _ _ rfl rfl
  rw [if_neg hf]
  have r1 := hl.ok.high
  have PC := Lib.hid (pages_calls hl)
  by_cases ha : at_ < 0 ∨ 1024 * (s.own.length : Int) < at_
  · rw [if_pos ha]
    have R : Hid (∀ e w', e = Ending.returned (.int .i64 1) → w = w' → Now w a s 1 e w') := fun e w' he hw => by subst hw; exact ⟨he, hl, Chg.refl _ _⟩
    have f1 : ¬ f < 0 := by omega
    have f2 : ¬ 11 < f := by omega
    have f3 : (f == 4) = false := by rw [beq_eq_false_iff_ne]; omega
    generalize s.own.length = N at PC r1 ha
    clear hl hf
    rcases ha with h | h
    · go_enter Try.func53, Try.ntmps53
      go_wp2
      go_ret
      exact R.out _ _ rfl rfl
    · have h' : ¬ at_ < 0 := by omega
      have h2 : (N : Int) * 1024 < at_ := by omega
      go_enter Try.func53, Try.ntmps53
      go_wp2_with (go_at_call 56; refine (PC.out).mono ?_; rintro e w' ⟨rfl, rfl⟩)
      go_ret
      exact R.out _ _ rfl rfl
  rw [if_neg ha]
  have IX := index_spot f (by omega) (by omega)
  have fr := fat_range f (by omega) (by omega)
  have f1 : ¬ f < 0 := by omega
  have f2 : ¬ 11 < f := by omega
  have f3 : (f == 4) = false := by rw [beq_eq_false_iff_ne]; omega
  have a1 : ¬ at_ < 0 := by omega
  have a2 : at_ ≤ (s.own.length : Int) * 1024 := by omega
  have a3 : at_ ≤ 32768 := by omega
  have H0 := Lib.hid hl
  by_cases h3 : f ≤ 3
  · rw [if_pos h3]
    have PL : Hid (∀ W, Lies W a s → Calls Try.prog 77 #[(.pointer (some ⟨a.g, 0, none⟩)), (.int .i64 (at_ + fat f)), (.int .i64 v)] W (Now W a (setPlace s (at_ + fat f) v).1 (setPlace s (at_ + fat f) v).2)) := fun W h => setplace_calls h _ _ (by omega) hv
    have YP := Lib.hid (fun W => place_yes f W h3)
    generalize (setPlace s (at_ + fat f) v).1 = x1 at PL ⊢
    generalize (setPlace s (at_ + fat f) v).2 = x2 at PL ⊢
    generalize fat f = q at IX PL fr
    obtain ⟨fr1, fr2⟩ := fr
    generalize fw f = u at IX
    generalize s.own.length = N at PC r1 a2
    clear hl hf ha hv
    go_enter Try.func53, Try.ntmps53
    go_wp2_with (go_at_call 56; refine (PC.out).mono ?_; rintro e w' ⟨rfl, rfl⟩)
    refine (spots_calls w).mono ?_
    rintro e w1 ⟨rfl, c1⟩
    have C1 := Lib.hid c1
    clear c1
    generalize SP = sp at IX ⊢
    have H1 : Hid (Lies (w1.alloc (.cells #[.int .i64 q, .int .i64 u] 85)) a s) := H0.out.chg (C1.out.trans (Chg.alloc _ _ _)) id id fun _ _ => id
    go_wp2_with (go_at_call 58; refine (YP.out _).mono ?_; rintro e w' ⟨rfl, rfl⟩)
    refine (PL.out _ H1.out).mono ?_
    rintro e w2 ⟨rfl, l2, c2⟩
    have F : Hid (∀ e w', e = Ending.returned (.int .i64 x2) → w2 = w' → Now w a x1 x2 e w') := fun e w' he hw => by
      subst hw
      exact ⟨he, l2, ((C1.out.trans (Chg.alloc _ _ _)).mono fun _ _ h => h.elim).trans c2⟩
    clear l2 c2
    go_wp2
    go_ret
    exact F.out _ _ rfl rfl
  · rw [if_neg h3]
    have YP := Lib.hid (fun W => place_no f W (by omega))
    have h3' : 3 < f := by omega
    by_cases hv0 : v < 0
    · rw [if_pos hv0]
      generalize fat f = q at IX fr
      generalize fw f = u at IX
      generalize s.own.length = N at PC r1 a2
      clear hl hf ha h3 hv
      go_enter Try.func53, Try.ntmps53
      go_wp2_with (go_at_call 56; refine (PC.out).mono ?_; rintro e w' ⟨rfl, rfl⟩)
      refine (spots_calls w).mono ?_
      rintro e w1 ⟨rfl, c1⟩
      have C1 := Lib.hid c1
      clear c1
      generalize SP = sp at IX ⊢
      have H1 : Hid (Lies (w1.alloc (.cells #[.int .i64 q, .int .i64 u] 85)) a s) := H0.out.chg (C1.out.trans (Chg.alloc _ _ _)) id id fun _ _ => id
      go_wp2_with (go_at_call 58; refine (YP.out _).mono ?_; rintro e w' ⟨rfl, rfl⟩)
      go_ret
      exact ⟨rfl, H1.out, (C1.out.trans (Chg.alloc _ _ _)).mono fun _ _ h => h.elim⟩
    · rw [if_neg hv0]
      have NL : Hid (∀ W, Lies W a s → Calls Try.prog 78 #[(.pointer (some ⟨a.g, 0, none⟩)), (.int .i64 (at_ + fat f)), (.int .i64 (fw f)), (.int .u64 v)] W (Now W a (setNumber s (at_ + fat f) (fw f) v).1 (setNumber s (at_ + fat f) (fw f) v).2)) := fun W h => setnumber_calls h _ _ _ (by omega) (by omega) (by omega)
      have wv : IntKind.u64.wrap v = v := by rw [u64_wrap]; omega
      generalize (setNumber s (at_ + fat f) (fw f) v).1 = x1 at NL ⊢
      generalize (setNumber s (at_ + fat f) (fw f) v).2 = x2 at NL ⊢
      generalize fat f = q at IX NL fr
      obtain ⟨fr1, fr2⟩ := fr
      generalize fw f = u at IX NL
      generalize s.own.length = N at PC r1 a2
      have hv0' : 0 ≤ v := by omega
      clear hl hf ha h3 hv hv0
      go_enter Try.func53, Try.ntmps53
      go_wp2_with (go_at_call 56; refine (PC.out).mono ?_; rintro e w' ⟨rfl, rfl⟩)
      refine (spots_calls w).mono ?_
      rintro e w1 ⟨rfl, c1⟩
      have C1 := Lib.hid c1
      clear c1
      generalize SP = sp at IX ⊢
      have H1 : Hid (Lies (w1.alloc (.cells #[.int .i64 q, .int .i64 u] 85)) a s) := H0.out.chg (C1.out.trans (Chg.alloc _ _ _)) id id fun _ _ => id
      go_wp2_with (go_at_call 58; refine (YP.out _).mono ?_; rintro e w' ⟨rfl, rfl⟩)
      refine (NL.out _ H1.out).mono ?_
      rintro e w2 ⟨rfl, l2, c2⟩
      have F : Hid (∀ e w', e = Ending.returned (.int .i64 x2) → w2 = w' → Now w a x1 x2 e w') := fun e w' he hw => by
        subst hw
        exact ⟨he, l2, ((C1.out.trans (Chg.alloc _ _ _)).mono fun _ _ h => h.elim).trans c2⟩
      clear l2 c2
      go_wp2
      go_ret
      exact F.out _ _ rfl rfl
/-! ### the reference's -/
variable {r : Ra}
/-- the reference's place and width: nought, nought where there is no such field -/
theorem where_calls (f : Int) (w : World) (h0 : 0 ≤ f) (h1 : f ≤ 11) : Calls Try.prog 82 #[(.int .i64 f)] w fun e w' => e = .returned (.tuple #[.int .i64 (fat f), .int .i64 (fw f)]) ∧ w = w' := by
  have h : f = 0 ∨ f = 1 ∨ f = 2 ∨ f = 3 ∨ f = 4 ∨ f = 5 ∨ f = 6 ∨ f = 7 ∨ f = 8 ∨ f = 9 ∨ f = 10 ∨ f = 11 := by omega
  clear h0 h1
  rcases h with rfl | rfl | rfl | rfl | rfl | rfl | rfl | rfl | rfl | rfl | rfl | rfl
  all_goals
    go_enter Try.func82, Try.ntmps82
    go_wp2
    go_ret2
    exact ⟨rfl, rfl⟩
theorem where_no (f : Int) (w : World) (h : f < 0 ∨ 11 < f) : Calls Try.prog 82 #[(.int .i64 f)] w fun e w' => e = .returned (.tuple #[.int .i64 0, .int .i64 0]) ∧ w = w' := by
  have e0 : (f == 0) = false := by rw [beq_eq_false_iff_ne]; omega
  have e1 : (f == 1) = false := by rw [beq_eq_false_iff_ne]; omega
  have e2 : (f == 2) = false := by rw [beq_eq_false_iff_ne]; omega
  have e3 : (f == 3) = false := by rw [beq_eq_false_iff_ne]; omega
  have e4 : (f == 4) = false := by rw [beq_eq_false_iff_ne]; omega
  have e5 : (f == 5) = false := by rw [beq_eq_false_iff_ne]; omega
  have e6 : (f == 6) = false := by rw [beq_eq_false_iff_ne]; omega
  have e7 : (f == 7) = false := by rw [beq_eq_false_iff_ne]; omega
  have e8 : (f == 8) = false := by rw [beq_eq_false_iff_ne]; omega
  have e9 : (f == 9) = false := by rw [beq_eq_false_iff_ne]; omega
  have e10 : (f == 10) = false := by rw [beq_eq_false_iff_ne]; omega
  have e11 : (f == 11) = false := by rw [beq_eq_false_iff_ne]; omega
  clear h
  go_enter Try.func82, Try.ntmps82
  go_wp2
  go_ret2
  exact ⟨rfl, rfl⟩
theorem fw_pos (f : Int) : 0 < fw f := by
  unfold fw
  split <;> (try split) <;> (try split) <;> (try split) <;> omega
theorem refset_calls (hl : RLies w r s) (at_ f v : Int) (hx : -9223372036854775808 ≤ at_ ∧ at_ ≤ 9223372036854775807) (hv : -9223372036854775808 ≤ v ∧ v ≤ 9223372036854775807) :
    Calls Try.prog 64 #[(.pointer (some ⟨r.g, 0, none⟩)), (.int .i64 at_), (.int .i64 f), (.int .i64 v)] w (RNow w r (itemSet s at_ f v).1 (itemSet s at_ f v).2) := by
  unfold itemSet
  by_cases hf : f < 0 ∨ 11 < f ∨ f = 4
  · rw [if_pos hf]
    have R : Hid (∀ e w', e = Ending.returned (.int .i64 6) → w = w' → RNow w r s 6 e w') := fun e w' he hw => by subst hw; exact ⟨he, hl, Chg.refl _ _⟩
    clear hl
    by_cases h4 : f = 4
    · subst h4
      have W := Lib.hid (where_calls 4 w (by decide) (by decide))
      go_enter Try.func64, Try.ntmps64
      go_wp2_with (go_at_call 82; refine (W.out).mono ?_; rintro e w' ⟨rfl, rfl⟩)
      go_ret
      exact R.out _ _ rfl rfl
    · have W := Lib.hid (where_no f w (by omega))
      clear hf h4
      go_enter Try.func64, Try.ntmps64
      go_wp2_with (go_at_call 82; refine (W.out).mono ?_; rintro e w' ⟨rfl, rfl⟩)
      go_ret
      exact R.out _ _ rfl rfl
  rw [if_neg hf]
  have r1 := hl.ok.high
  have W := Lib.hid (where_calls f w (by omega) (by omega))
  have fp := fw_pos f
  have fz : (fw f == 0) = false := by rw [beq_eq_false_iff_ne]; omega
  have f3 : (f == 4) = false := by rw [beq_eq_false_iff_ne]; omega
  have k2 := hl.hdB
  rw [hl.ok.len] at k2
  have hcast : ((1024 * s.own.length : Nat) : Int) = 1024 * (s.own.length : Int) := by omega
  have fr := fat_range f (by omega) (by omega)
  have H0 := Lib.hid hl
  by_cases ha : at_ < 0 ∨ 1024 * (s.own.length : Int) < at_
  · rw [if_pos ha]
    have R : Hid (∀ e w', e = Ending.returned (.int .i64 1) → w = w' → RNow w r s 1 e w') := fun e w' he hw => by subst hw; exact ⟨he, hl, Chg.refl _ _⟩
    generalize 1024 * s.own.length = N at k2 hcast
    rw [← hcast] at ha
    generalize fat f = q at W
    generalize fw f = u at W fz
    clear hl hf hcast fp fr
    rcases ha with h | h
    · go_enter Try.func64, Try.ntmps64
      go_wp2_with (go_at_call 82; refine (W.out).mono ?_; rintro e w' ⟨rfl, rfl⟩)
      go_ret
      exact R.out _ _ rfl rfl
    · have h' : ¬ at_ < 0 := by omega
      go_enter Try.func64, Try.ntmps64
      go_wp2_with (go_at_call 82; refine (W.out).mono ?_; rintro e w' ⟨rfl, rfl⟩)
      go_ret
      exact R.out _ _ rfl rfl
  rw [if_neg ha]
  have a1 : ¬ at_ < 0 := by omega
  have a3 : at_ ≤ 32768 := by omega
  by_cases h3 : f ≤ 3
  · rw [if_pos h3]
    have PL := Lib.hid (refsetplace_calls hl (at_ + fat f) v (by omega) hv)
    generalize (setPlace s (at_ + fat f) v).1 = x1 at PL ⊢
    generalize (setPlace s (at_ + fat f) v).2 = x2 at PL ⊢
    generalize 1024 * s.own.length = N at k2 hcast
    rw [← hcast] at ha
    have a2 : at_ ≤ N := by omega
    have h3' : f < 4 := by omega
    generalize fat f = q at W PL fr
    generalize fw f = u at W fz
    obtain ⟨fr1, fr2⟩ := fr
    clear hl hf ha hv hcast fp h3
    go_enter Try.func64, Try.ntmps64
    go_wp2_with (go_at_call 82; refine (W.out).mono ?_; rintro e w' ⟨rfl, rfl⟩)
    refine PL.out.mono ?_
    rintro e w2 ⟨rfl, l2, c2⟩
    have F : Hid (∀ e w', e = Ending.returned (.int .i64 x2) → w2 = w' → RNow w r x1 x2 e w') := fun e w' he hw => by
      subst hw
      exact ⟨he, l2, c2⟩
    clear l2 c2
    go_wp2
    go_ret
    exact F.out _ _ rfl rfl
  · rw [if_neg h3]
    have h3' : 4 ≤ f := by omega
    by_cases hv0 : v < 0
    · rw [if_pos hv0]
      generalize 1024 * s.own.length = N at k2 hcast
      rw [← hcast] at ha
      have a2 : at_ ≤ N := by omega
      generalize fat f = q at W
      generalize fw f = u at W fz
      clear hl hf ha hv hcast fp fr h3
      go_enter Try.func64, Try.ntmps64
      go_wp2_with (go_at_call 82; refine (W.out).mono ?_; rintro e w' ⟨rfl, rfl⟩)
      go_ret
      exact ⟨rfl, H0.out, Chg.refl _ _⟩
    · rw [if_neg hv0]
      have NL := Lib.hid (refsetnumber_calls hl (at_ + fat f) (fw f) v (by omega) (by omega) (by omega))
      have wv : IntKind.u64.wrap v = v := by rw [u64_wrap]; omega
      generalize (setNumber s (at_ + fat f) (fw f) v).1 = x1 at NL ⊢
      generalize (setNumber s (at_ + fat f) (fw f) v).2 = x2 at NL ⊢
      generalize 1024 * s.own.length = N at k2 hcast
      rw [← hcast] at ha
      have a2 : at_ ≤ N := by omega
      generalize fat f = q at W NL fr
      obtain ⟨fr1, fr2⟩ := fr
      generalize fw f = u at W fz NL
      have hv0' : 0 ≤ v := by omega
      clear hl hf ha hv hcast fp h3 hv0
      go_enter Try.func64, Try.ntmps64
      go_wp2_with (go_at_call 82; refine (W.out).mono ?_; rintro e w' ⟨rfl, rfl⟩)
      refine NL.out.mono ?_
      rintro e w2 ⟨rfl, l2, c2⟩
      have F : Hid (∀ e w', e = Ending.returned (.int .i64 x2) → w2 = w' → RNow w r x1 x2 e w') := fun e w' he hw => by
        subst hw
        exact ⟨he, l2, c2⟩
      clear l2 c2
      go_wp2
      go_ret
      exact F.out _ _ rfl rfl
end Go.Proofs.Ytfhffffdhlofgaa.Item

/- A map from numbers to true, as a set: what is asked, laid in, taken out, counted. No program in sight. -/
namespace Go.Proofs.Ytfhffffdhlofgaa.Mem
open Go Go.RowKit Go.MapKept
set_option linter.unusedVariables false
set_option maxRecDepth 100000
/-- block b is a map whose keys are the numbers of L, each with true -/
def MSet (w : World) (b : Nat) (L : List Int) : Prop :=
  ∃ (es : Array MapEntry) (clock : Nat) (ks : List Int), w.heap[b]? = some (.map es clock) ∧ es.toList.map (fun e => (e.key, e.val)) = ks.map (fun n => (Value.int .i64 n, Value.bool true)) ∧ ks.Perm L ∧ L.Nodup
theorem MSet.lt {w : World} {b : Nat} {L : List Int} (h : MSet w b L) : b < w.heap.size := by
  obtain ⟨es, clock, ks, hb, _⟩ := h
  exact blk_lt hb
theorem MSet.chg {w w' : World} {b : Nat} {L : List Int} {S : Nat → Prop} (h : MSet w b L) (hc : Chg S w w') (hs : ¬ S b) : MSet w' b L := by
  obtain ⟨es, clock, ks, hb, r⟩ := h
  exact ⟨es, clock, ks, hc.keep hb hs, r⟩
theorem MSet.perm {w : World} {b : Nat} {L M : List Int} (h : MSet w b L) (hp : L.Perm M) : MSet w b M := by
  obtain ⟨es, clock, ks, hb, h1, h2, h3⟩ := h
  exact ⟨es, clock, ks, hb, h1, h2.trans hp, hp.nodup_iff.1 h3⟩
theorem MSet.made (w : World) : MSet (w.alloc (.map #[] 0)) w.heap.size [] :=
  ⟨#[], 0, [], by show (w.heap.push _)[w.heap.size]? = _; rw [Array.getElem?_push_size], rfl, List.Perm.refl _, List.nodup_nil⟩
/-- what is laid into a map's block -/
theorem chg_map (w : World) (b : Nat) (o : Obj) : Chg (fun x => x = b) w { w with heap := w.heap.setIfInBounds b o } :=
  ⟨rfl, rfl, rfl, by simp, fun x _ hx => by
    show (w.heap.setIfInBounds b o)[x]? = _
    rw [Array.getElem?_setIfInBounds, if_neg (fun e => hx e.symm)]⟩
theorem eraseIdx_of_map {α β : Type} (f : α → β) : ∀ (l : List α) (i : Nat), (l.map f).eraseIdx i = (l.eraseIdx i).map f
  | [], _ => by simp
  | x :: l, 0 => rfl
  | x :: l, i + 1 => by simp [eraseIdx_of_map f l i]
theorem eraseIdx_nodup : ∀ (l : List Int) (j : Nat) (n : Int), l.Nodup → l[j]? = some n → l.eraseIdx j = l.erase n
  | [], j, n, _, h => by simp at h
  | x :: l, 0, n, _, h => by
    injection h with h
    subst h
    simp
  | x :: l, j + 1, n, hn, h => by
    have h' : l[j]? = some n := h
    have hx : x ≠ n := fun e => by
      subst e
      exact (List.nodup_cons.1 hn).1 (List.mem_of_getElem? h')
    rw [List.eraseIdx_cons_succ, List.erase_cons_tail (by simpa using hx), eraseIdx_nodup l j n (List.nodup_cons.1 hn).2 h']
section
variable {P : Program} {w : World} {b : Nat} {L : List Int} {t kt et : TypeId}
theorem entries_find {es : List MapEntry} {ks : List Int} (h : es.map (fun e => (e.key, e.val)) = ks.map (fun n => (Value.int .i64 n, Value.bool true))) (n : Int) :
    (n ∉ ks ∧ Instr.findNow (.int .i64) (.int .i64 n) es 0 = some none) ∨ ∃ j, ks[j]? = some n ∧ Instr.findNow (.int .i64) (.int .i64 n) es 0 = some (some (j, .bool true)) := by
  have hk : ∀ (j : Nat) (e : MapEntry), es[j]? = some e → ∃ m, ks[j]? = some m ∧ e.key = .int .i64 m ∧ e.val = .bool true := fun j e he => by
    have h1 : (es.map (fun e => (e.key, e.val)))[j]? = some (e.key, e.val) := by rw [List.getElem?_map, he]; rfl
    rw [h, List.getElem?_map] at h1
    cases hj : ks[j]? with
    | none => rw [hj] at h1; cases h1
    | some m =>
      rw [hj] at h1
      injection h1 with h1
      injection h1 with h2 h3
      exact ⟨m, rfl, h2.symm, h3.symm⟩
  have keys : ∀ x ∈ es, IsKey (.int .i64) x.key := fun x hx => by
    obtain ⟨j, hj⟩ := List.getElem?_of_mem hx
    obtain ⟨m, _, e, _⟩ := hk j x hj
    rw [e]; rfl
  rcases findNow_spec (d := .int .i64) (k := .int .i64 n) rfl es 0 keys with ⟨h1, h2⟩ | ⟨j, e, h1, h2, h3⟩
  · refine .inl ⟨fun hn => ?_, h1⟩
    obtain ⟨j, hj⟩ := List.getElem?_of_mem hn
    have hl : es.length = ks.length := by have := congrArg List.length h; simpa using this
    have hjl : j < es.length := by
      rcases Nat.lt_or_ge j ks.length with h | h
      · omega
      · rw [List.getElem?_eq_none h] at hj; cases hj
    obtain ⟨m, e1, e2, _⟩ := hk j _ (List.getElem?_eq_getElem hjl)
    rw [hj] at e1
    injection e1 with e1
    subst e1
    exact h2 _ (List.getElem_mem hjl) e2
  · obtain ⟨m, e1, e2, e3⟩ := hk j e h2
    rw [h3] at e2
    injection e2 with _ e2
    subst e2
    rw [Nat.zero_add, e3] at h1
    exact .inr ⟨j, e1, h1⟩
theorem MSet.lookup (h : MSet w b L) (ht : P.underlying t = some (.map kt et)) (hkt : P.underlying kt = some (.int .i64)) (hz : (zeroValue et).run P w = .ok (.bool false) w) (n : Int) :
    (Instr.lookup t (.map (some b)) (.int .i64 n) false).run P w = .ok (.bool (decide (n ∈ L))) w := by
  obtain ⟨es, clock, ks, hb, h1, h2, h3⟩ := h
  rcases entries_find h1 n with ⟨hn, hf⟩ | ⟨j, hj, hf⟩
  · rw [decide_eq_false (fun hm => hn (h2.mem_iff.2 hm))]
    simp [Instr.lookup, run_underlying ht, MapKept.run_getObj_map hb, MapKept.run_checkKey hkt (show IsKey (.int .i64) (.int .i64 n) from rfl), MapKept.run_findKey hkt hf, hz, Result.andThen]
  · rw [decide_eq_true (h2.mem_iff.1 (List.mem_of_getElem? hj))]
    simp [Instr.lookup, run_underlying ht, MapKept.run_getObj_map hb, MapKept.run_checkKey hkt (show IsKey (.int .i64) (.int .i64 n) from rfl), MapKept.run_findKey hkt hf, Result.andThen]
theorem MSet.update (h : MSet w b L) (ht : P.underlying t = some (.map kt et)) (hkt : P.underlying kt = some (.int .i64)) (n : Int) (hn : n ∉ L) :
    ∃ w', (Instr.mapUpdate t (.map (some b)) (.int .i64 n) (.bool true)).run P w = .ok () w' ∧ MSet w' b (n :: L) ∧ Chg (fun x => x = b) w w' := by
  obtain ⟨es, clock, ks, hb, h1, h2, h3⟩ := h
  rcases entries_find h1 n with ⟨hn', hf⟩ | ⟨j, hj, hf⟩
  · refine ⟨_, by simp [Instr.mapUpdate, run_underlying ht, MapKept.run_getObj_map hb, MapKept.run_checkKey hkt (show IsKey (.int .i64) (.int .i64 n) from rfl), MapKept.run_findKey hkt hf, MapKept.run_setObj_map _ hb, Result.andThen]; rfl, ⟨es.push { key := .int .i64 n, val := .bool true, born := clock }, clock + 1, ks ++ [n], ?_, ?_, ?_, ?_⟩, chg_map w b _⟩
    · exact (heap_set hb).1
    · rw [Array.toList_push, List.map_append, h1, List.map_append]; rfl
    · exact (List.perm_append_comm).trans (h2.cons n)
    · exact List.nodup_cons.2 ⟨hn, h3⟩
  · exact absurd (h2.mem_iff.1 (List.mem_of_getElem? hj)) hn
theorem MSet.delete (h : MSet w b L) (ht : P.underlying t = some (.map kt et)) (hkt : P.underlying kt = some (.int .i64)) (n : Int) (hn : n ∈ L) (ty kt' : TypeId) :
    ∃ w', (Builtin.delete_ #[t, kt'] ty #[.map (some b), .int .i64 n]).run P w = .ok (.tuple #[]) w' ∧ MSet w' b (L.erase n) ∧ Chg (fun x => x = b) w w' := by
  obtain ⟨es, clock, ks, hb, h1, h2, h3⟩ := h
  rcases entries_find h1 n with ⟨hn', hf⟩ | ⟨j, hj, hf⟩
  · exact absurd (h2.mem_iff.2 hn) hn'
  · have hl : es.size = ks.length := by have := congrArg List.length h1; simpa using this
    have hjl : j < ks.length := by
      rcases Nat.lt_or_ge j ks.length with h | h
      · exact h
      · rw [List.getElem?_eq_none h] at hj; cases hj
    have nk : ks.Nodup := h2.nodup_iff.2 h3
    refine ⟨_, by simp [Builtin.delete_, run_underlying ht, MapKept.run_getObj_map hb, MapKept.run_checkKey hkt (show IsKey (.int .i64) (.int .i64 n) from rfl), MapKept.run_findKey hkt hf, MapKept.run_setObj_map _ hb, Result.andThen]; rfl, ⟨es.eraseIdxIfInBounds j, clock, ks.eraseIdx j, ?_, ?_, ?_, ?_⟩, chg_map w b _⟩
    · exact (heap_set hb).1
    · have e : (es.eraseIdxIfInBounds j).toList = es.toList.eraseIdx j := by
        unfold Array.eraseIdxIfInBounds
        rw [dif_pos (by omega)]
        simp
      rw [e, ← eraseIdx_of_map, h1, eraseIdx_of_map]
    · have e : ks.eraseIdx j = ks.erase n := eraseIdx_nodup ks j n nk hj
      rw [e]
      exact h2.erase n
    · exact h3.erase n
theorem MSet.len (h : MSet w b L) (ht : P.underlying t = some (.map kt et)) (ty : TypeId) : (Builtin.len_ #[t] ty #[.map (some b)]).run P w = .ok (.int .i64 L.length) w := by
  obtain ⟨es, clock, ks, hb, h1, h2, h3⟩ := h
  have hl : es.size = ks.length := by have := congrArg List.length h1; simpa using this
  have e : es.size = L.length := by rw [hl]; exact h2.length_eq
  simp [Builtin.len_, run_underlying ht, MapKept.run_getObj_map hb, Result.andThen, e]
  rfl
end
end Go.Proofs.Ytfhffffdhlofgaa.Mem

/- The program's queue in memory, and what its functions do: New, join, put, Push, Insert, Remove, Tail, Before, Has, Len. -/
namespace Go.Proofs.Ytfhffffdhlofgaa.Links
open Go Go.RowKit Go.Proofs.Ytfhffffdhlofgaa.Mem Go.Proofs.Ytfhffffdhlofgaa.CodecPure Go.Proofs.Ytfhffffdhlofgaa.ArenaPure Go.Proofs.Ytfhffffdhlofgaa.Codec Go.Proofs.Ytfhffffdhlofgaa.Arena Go.Proofs.Ytfhffffdhlofgaa.Item
set_option linter.unusedVariables false
set_option maxRecDepth 100000
variable {w w' : World} {a : Ar} {s : St}
/-- a queue's header and its map -/
structure Qh where
  q : Nat
  m : Nat
/-- the header's cells -/
def qcells (a : Ar) (h : Qh) (f l : Int) : List Value := [.pointer (some ⟨a.g, 0, none⟩), .int .i64 f, .int .i64 l, .map (some h.m)]
structure Qout (a : Ar) (h : Qh) : Prop where
  q : h.q ≠ a.g ∧ h.q ≠ a.ps ∧ h.q ∉ a.pb
  m : h.m ≠ a.g ∧ h.m ≠ a.ps ∧ h.m ∉ a.pb
  qm : h.q ≠ h.m
structure QLies (w : World) (a : Ar) (h : Qh) (s : St) (L : List Int) : Prop where
  lies : Lies w a s
  li : LI s L
  head : w.heap[h.q]? = some (.cells (qcells a h (L.headD (-1)) (L.getLastD (-1))).toArray 77 (0, 0))
  set : MSet w h.m L
  out : Qout a h
variable {h : Qh} {L : List Int}
/-- the blocks that a queue's functions write -/
def Q2 (a : Ar) (h : Qh) (x : Nat) : Prop := x ∈ a.pb ∨ x = h.q ∨ x = h.m
theorem QLies.fresh (k : QLies w a h s L) (hc : Chg (fun _ => False) w w') : QLies w' a h s L :=
  ⟨k.lies.chg hc id id fun _ _ => id, k.li, hc.keep k.head id, k.set.chg hc id, k.out⟩
theorem QLies.c0 (k : QLies w a h s L) : w.cell? ⟨h.q, 0, none⟩ = some (.pointer (some ⟨a.g, 0, none⟩)) := by rw [blk_cell k.head]; rfl
theorem QLies.c1 (k : QLies w a h s L) : w.cell? ⟨h.q, 1, none⟩ = some (.int .i64 (L.headD (-1))) := by rw [blk_cell k.head]; rfl
theorem QLies.c2 (k : QLies w a h s L) : w.cell? ⟨h.q, 2, none⟩ = some (.int .i64 (L.getLastD (-1))) := by rw [blk_cell k.head]; rfl
theorem QLies.c3 (k : QLies w a h s L) : w.cell? ⟨h.q, 3, none⟩ = some (.map (some h.m)) := by rw [blk_cell k.head]; rfl
theorem zeroBool (w : World) : (zeroValue 4).run Try.prog w = .ok (.bool false) w := by kernel_rfl
theorem QLies.look (k : QLies w a h s L) (n : Int) : (Instr.lookup 75 (.map (some h.m)) (.int .i64 n) false).run Try.prog w = .ok (.bool (decide (n ∈ L))) w :=
  k.set.lookup Try.underlying75 Try.underlying3 (zeroBool w) n

/-! ### join -/
def j1 (s : St) (at_ after : Int) : St := if at_ = -1 then s else (itemSet s at_ 2 after).1
def j2 (s : St) (at_ after : Int) : St := if after = -1 then j1 s at_ after else (itemSet (j1 s at_ after) after 1 at_).1
def jf (f at_ after : Int) : Int := if at_ = -1 then after else f
def jl (l at_ after : Int) : Int := if after = -1 then at_ else l
/-- no answer; the arena, the header's two ends are so now -/
def Joined (w : World) (a : Ar) (h : Qh) (s' : St) (f l : Int) (e : Ending) (w' : World) : Prop :=
  e = .returned (.tuple #[]) ∧ Lies w' a s' ∧ w'.heap[h.q]? = some (.cells (qcells a h f l).toArray 77 (0, 0)) ∧ Chg (fun x => x ∈ a.pb ∨ x = h.q) w w'
def I64 (x : Int) : Prop := -9223372036854775808 ≤ x ∧ x ≤ 9223372036854775807
theorem head_set1 {f l v : Int} (hb : w.heap[h.q]? = some (.cells (qcells a h f l).toArray 77 (0, 0))) : (w.setCell ⟨h.q, 1, none⟩ (.int .i64 v)).heap[h.q]? = some (.cells (qcells a h v l).toArray 77 (0, 0)) := by
  rw [setCell_row hb, setRow_heap w _ _ _ _ (0, 0) hb]; rfl
theorem head_set2 {f l v : Int} (hb : w.heap[h.q]? = some (.cells (qcells a h f l).toArray 77 (0, 0))) : (w.setCell ⟨h.q, 2, none⟩ (.int .i64 v)).heap[h.q]? = some (.cells (qcells a h f v).toArray 77 (0, 0)) := by
  rw [setCell_row hb, setRow_heap w _ _ _ _ (0, 0) hb]; rfl
theorem lies_q1 (hl : Lies w a s) (ho : Qout a h) (k : Nat) (v : Value) : Lies (w.setCell ⟨h.q, k, none⟩ v) a s :=
  hl.chg (S := fun x => x = h.q) (Chg.setCell _ _ _ rfl) (fun e => ho.q.1 e.symm) (fun e => ho.q.2.1 e.symm) fun b hb e => ho.q.2.2 (e ▸ hb)
theorem join_calls (hl : Lies w a s) (ho : Qout a h) (f l at_ after : Int) (hb : w.heap[h.q]? = some (.cells (qcells a h f l).toArray 77 (0, 0))) (hx : I64 at_) (hy : I64 after) :
    Calls Try.prog 52 #[(.pointer (some ⟨h.q, 0, none⟩)), (.int .i64 at_), (.int .i64 after)] w (Joined w a h (j2 s at_ after) (jf f at_ after) (jl l at_ after)) := by
  unfold j2 jf jl
  have HB := Lib.hid hb
  have HL := Lib.hid hl
  have HO := Lib.hid ho
  have c0 : w.cell? ⟨h.q, 0, none⟩ = some (.pointer (some ⟨a.g, 0, none⟩)) := by rw [blk_cell hb]; rfl
  have c1 : w.cell? ⟨h.q, 1, none⟩ = some (.int .i64 f) := by rw [blk_cell hb]; rfl
  have c2 : w.cell? ⟨h.q, 2, none⟩ = some (.int .i64 l) := by rw [blk_cell hb]; rfl
  have z1 := blk_frozen hb 1
  have z2 := blk_frozen hb 2
  clear hb hl ho
  by_cases e1 : at_ = -1
  · rw [if_pos e1]
    subst e1
    by_cases e2 : after = -1
    · rw [if_pos e2, if_pos e2]
      subst e2
      have R : Hid (Joined w a h (j1 s (-1) (-1)) (-1) (-1) (.returned (.tuple #[])) ((w.setCell ⟨h.q, 1, none⟩ (.int .i64 (-1))).setCell ⟨h.q, 2, none⟩ (.int .i64 (-1)))) :=
        ⟨rfl, lies_q1 (lies_q1 HL.out HO.out 1 _) HO.out 2 _, head_set2 (head_set1 HB.out), (Chg.setCell _ _ _ (.inr rfl)).trans (Chg.setCell _ _ _ (.inr rfl))⟩
      clear hx hy
      go_enter Try.func52, Try.ntmps52
      go_wp2
      go_end0
      exact R.out
    · rw [if_neg e2, if_neg e2]
      have j : j1 s (-1) after = s := if_pos rfl
      rw [j]
      have t2 : (after == -1) = false := by rw [beq_eq_false_iff_ne]; exact e2
      have SC := Lib.hid (set_calls (lies_q1 HL.out HO.out 1 (.int .i64 after)) after 1 (-1) hy (by decide))
      generalize (itemSet s after 1 (-1)).1 = s' at SC ⊢
      generalize (itemSet s after 1 (-1)).2 = er at SC
      clear hx hy e2
      go_enter Try.func52, Try.ntmps52
      go_wp2_with fail
      refine SC.out.mono ?_
      rintro e w2 ⟨rfl, l2, k2⟩
      have R : Hid (Joined w a h s' after l (.returned (.tuple #[])) w2) := ⟨rfl, l2, k2.keep (head_set1 HB.out) HO.out.q.2.2, ((Chg.setCell _ _ _ (.inr rfl)).trans (k2.mono fun _ _ => .inl))⟩
      clear l2 k2
      go_wp2
      go_end0
      exact R.out
  · rw [if_neg e1]
    have t1 : (at_ == -1) = false := by rw [beq_eq_false_iff_ne]; exact e1
    have j : j1 s at_ after = (itemSet s at_ 2 after).1 := if_neg e1
    rw [j]
    have SC := Lib.hid (set_calls HL.out at_ 2 after hx hy)
    generalize (itemSet s at_ 2 after).1 = s1 at SC ⊢
    generalize (itemSet s at_ 2 after).2 = er at SC
    by_cases e2 : after = -1
    · rw [if_pos e2, if_pos e2]
      subst e2
      clear hx hy e1 j
      go_enter Try.func52, Try.ntmps52
      go_wp2_with fail
      refine SC.out.mono ?_
      rintro e w2 ⟨rfl, l2, k2⟩
      have hb2 := k2.keep HB.out HO.out.q.2.2
      have d2 : w2.cell? ⟨h.q, 2, none⟩ = some (.int .i64 l) := by rw [blk_cell hb2]; rfl
      have y2 := blk_frozen hb2 2
      have R : Hid (Joined w a h s1 f at_ (.returned (.tuple #[])) (w2.setCell ⟨h.q, 2, none⟩ (.int .i64 at_))) := ⟨rfl, lies_q1 l2 HO.out 2 _, head_set2 hb2, (k2.mono fun _ _ => .inl).trans (Chg.setCell _ _ _ (.inr rfl))⟩
      clear l2 k2 hb2
      go_wp2
      go_end0
      exact R.out
    · rw [if_neg e2, if_neg e2]
      have t2 : (after == -1) = false := by rw [beq_eq_false_iff_ne]; exact e2
      have S2 : Hid (∀ W, Lies W a s1 → Calls Try.prog 53 #[(.pointer (some ⟨a.g, 0, none⟩)), (.int .i64 after), (.int .i64 1), (.int .i64 at_)] W (Now W a (itemSet s1 after 1 at_).1 (itemSet s1 after 1 at_).2)) := fun W h => set_calls h after 1 at_ hy hx
      generalize (itemSet s1 after 1 at_).1 = s2 at S2 ⊢
      generalize (itemSet s1 after 1 at_).2 = er2 at S2
      clear hx hy e1 e2 j
      go_enter Try.func52, Try.ntmps52
      go_wp2_with fail
      refine SC.out.mono ?_
      rintro e w2 ⟨rfl, l2, k2⟩
      have hb2 := k2.keep HB.out HO.out.q.2.2
      have d0 : w2.cell? ⟨h.q, 0, none⟩ = some (.pointer (some ⟨a.g, 0, none⟩)) := by rw [blk_cell hb2]; rfl
      have HB2 := Lib.hid hb2
      have SC2 := Lib.hid (S2.out w2 l2)
      have K2 := Lib.hid k2
      clear l2 k2 hb2 S2
      go_wp2_with fail
      refine SC2.out.mono ?_
      rintro e w3 ⟨rfl, l3, k3⟩
      have R : Hid (Joined w a h s2 f l (.returned (.tuple #[])) w3) := ⟨rfl, l3, k3.keep HB2.out HO.out.q.2.2, (K2.out.trans k3).mono fun _ _ => .inl⟩
      clear l3 k3
      go_wp2
      go_end0
      exact R.out
end Go.Proofs.Ytfhffffdhlofgaa.Links

/- The program's queue: put, Push, Insert, Remove, Tail, Before, Has, Len, New. -/
namespace Go.Proofs.Ytfhffffdhlofgaa.Links
open Go Go.RowKit Go.Proofs.Ytfhffffdhlofgaa.Mem Go.Proofs.Ytfhffffdhlofgaa.CodecPure Go.Proofs.Ytfhffffdhlofgaa.ArenaPure Go.Proofs.Ytfhffffdhlofgaa.Codec Go.Proofs.Ytfhffffdhlofgaa.Arena Go.Proofs.Ytfhffffdhlofgaa.Item
set_option linter.unusedVariables false
set_option maxRecDepth 100000
variable {w w' : World} {a : Ar} {h : Qh} {s : St} {L : List Int}
theorem sp_own (s : St) (y v : Int) : (sp s y v).own = s.own := by
  unfold sp setPlace
  split <;> rfl
theorem hdr_range {s : St} {x : Int} (hx : within s x 40) : ¬ (x < 0 ∨ 1024 * (s.own.length : Int) < x) := by
  obtain ⟨_, h1, h2, _⟩ := hx
  omega
theorem itemSet1 {s : St} {x : Int} (hx : within s x 40) (v : Int) : (itemSet s x 1 v).1 = sp s (x + 4) v := by
  unfold itemSet
  rw [if_neg (by decide), if_neg (hdr_range hx), if_pos (by decide)]; rfl
theorem itemSet2 {s : St} {x : Int} (hx : within s x 40) (v : Int) : (itemSet s x 2 v).1 = sp s (x + 8) v := by
  unfold itemSet
  rw [if_neg (by decide), if_neg (hdr_range hx), if_pos (by decide)]; rfl
theorem itemGet1 {s : St} {x : Int} (hx : within s x 40) : itemGet s x 1 = place s (x + 4) := by
  unfold itemGet
  rw [if_neg (by decide), if_neg (hdr_range hx), if_pos (by decide)]; rfl
theorem itemGet2 {s : St} {x : Int} (hx : within s x 40) : itemGet s x 2 = place s (x + 8) := by
  unfold itemGet
  rw [if_neg (by decide), if_neg (hdr_range hx), if_pos (by decide)]; rfl
theorem j1_eq {s : St} {x v : Int} (hx : x = -1 ∨ within s x 40) : j1 s x v = if x = -1 then s else sp s (x + 8) v := by
  unfold j1
  by_cases e : x = -1
  · rw [if_pos e, if_pos e]
  · rw [if_neg e, if_neg e, itemSet2 (hx.resolve_left e)]
theorem j1_own {s : St} {x v : Int} (hx : x = -1 ∨ within s x 40) : (j1 s x v).own = s.own := by
  rw [j1_eq hx]
  split
  · rfl
  · exact sp_own _ _ _
theorem j2_eq {s : St} {x y : Int} (hx : x = -1 ∨ within s x 40) (hy : y = -1 ∨ within s y 40) : j2 s x y = if y = -1 then j1 s x y else sp (j1 s x y) (y + 4) x := by
  unfold j2
  by_cases e : y = -1
  · rw [if_pos e, if_pos e]
  · rw [if_neg e, if_neg e, itemSet1 ((within_own (j1_own hx) y 40).2 (hy.resolve_left e))]
theorem j2_own {s : St} {x y : Int} (hx : x = -1 ∨ within s x 40) (hy : y = -1 ∨ within s y 40) : (j2 s x y).own = s.own := by
  rw [j2_eq hx hy]
  split
  · exact j1_own hx
  · rw [sp_own]; exact j1_own hx
theorem join_put {s : St} {p x n : Int} (hp : p = -1 ∨ within s p 40) (hx : within s x 40) (hn : n = -1 ∨ within s n 40) (h0 : x ≠ -1) : j2 (j2 s p x) x n = putS s p x n := by
  have o1 := j2_own hp (.inr hx)
  rw [j2_eq (.inr ((within_own o1 x 40).2 hx)) (hn.imp id fun h => (within_own o1 n 40).2 h), j1_eq (.inr ((within_own o1 x 40).2 hx)), if_neg h0, j2_eq hp (.inr hx), if_neg h0, j1_eq hp]
  rfl
theorem join_del {s : St} {p x n : Int} (hp : p = -1 ∨ within s p 40) (hx : within s x 40) (hn : n = -1 ∨ within s n 40) : (itemSet (itemSet (j2 s p n) x 1 (-1)).1 x 2 (-1)).1 = delS s p x n := by
  have o1 := j2_own hp hn
  have hx1 := (within_own o1 x 40).2 hx
  rw [itemSet1 hx1, itemSet2 ((within_own (sp_own _ _ _) x 40).2 hx1), j2_eq hp hn, j1_eq hp]
  rfl
theorem last_ends {s : St} {A C : List Int} (hl : LI s (A ++ C)) : A.getLastD (-1) = -1 ∨ within s (A.getLastD (-1)) 40 := by
  rcases List.eq_nil_or_concat A with rfl | ⟨A', y, rfl⟩
  · exact .inl rfl
  · rw [List.concat_eq_append] at *
    have el : (A' ++ [y]).getLastD (-1) = y := by simp
    rw [el]
    exact .inr (hl.hdr y (by simp))
theorem head_ends {s : St} {A C : List Int} (hl : LI s (A ++ C)) : C.headD (-1) = -1 ∨ within s (C.headD (-1)) 40 := by
  cases C with
  | nil => exact .inl rfl
  | cons z C' => exact .inr (hl.hdr z (by simp))
theorem headD_put (A C : List Int) (x : Int) (hp : A.getLastD (-1) = -1 ↔ A = []) (h0 : x ≠ -1) (n : Int) : jf (jf ((A ++ C).headD (-1)) (A.getLastD (-1)) x) x n = (A ++ x :: C).headD (-1) := by
  unfold jf
  rw [if_neg h0]
  cases A with
  | nil => rw [if_pos (hp.2 rfl)]; rfl
  | cons y A' => rw [if_neg (fun e => by have := hp.1 e; cases this)]; rfl
theorem lastD_put (A C : List Int) (x p : Int) (hn : C.headD (-1) = -1 ↔ C = []) (h0 : x ≠ -1) : jl (jl ((A ++ C).getLastD (-1)) p x) x (C.headD (-1)) = (A ++ x :: C).getLastD (-1) := by
  unfold jl
  rw [if_neg h0]
  cases C with
  | nil => rw [if_pos (hn.2 rfl)]; simp
  | cons y C' => rw [if_neg (fun e => by have := hn.1 e; cases this)]; simp
theorem getLastD_mem (A : List Int) (hA : A ≠ []) : A.getLastD (-1) ∈ A := by
  rcases List.eq_nil_or_concat A with rfl | ⟨A', y, rfl⟩
  · exact absurd rfl hA
  · rw [List.concat_eq_append]
    have el : (A' ++ [y]).getLastD (-1) = y := by simp
    rw [el]; simp
theorem last_none {s : St} {A C : List Int} (hl : LI s (A ++ C)) : A.getLastD (-1) = -1 ↔ A = [] := by
  constructor
  · intro e
    rcases List.eq_nil_or_concat A with rfl | ⟨A', y, rfl⟩
    · rfl
    · rw [List.concat_eq_append] at *
      have el : (A' ++ [y]).getLastD (-1) = y := by simp
      rw [el] at e
      have := (hl.pl (x := y) (by simp)).2
      omega
  · rintro rfl; rfl
theorem head_none {s : St} {A C : List Int} (hl : LI s (A ++ C)) : C.headD (-1) = -1 ↔ C = [] := by
  cases C with
  | nil => simp
  | cons z C' =>
    have := (hl.pl (x := z) (by simp)).2
    simp; omega
theorem pl_i64 {x : Int} (h : Pl x) : I64 x := by unfold Pl at h; unfold I64; omega
theorem ends_i64 {s : St} (hs : Ok s) {x : Int} (h : x = -1 ∨ within s x 40) : I64 x := by
  rcases h with rfl | h
  · exact ⟨by decide, by decide⟩
  · exact pl_i64 (hdr_pl hs h).1
/-- one answer, an error; the queue is so now -/
def Qok (w : World) (a : Ar) (h : Qh) (s' : St) (L' : List Int) (err : Int) (e : Ending) (w' : World) : Prop :=
  e = .returned (.int .i64 err) ∧ QLies w' a h s' L' ∧ Chg (Q2 a h) w w'
theorem put_no (k : QLies w a h s L) (p x n : Int) (hx : I64 x) (hw : ¬ within s x 40) : Calls Try.prog 54 #[(.pointer (some ⟨h.q, 0, none⟩)), (.int .i64 p), (.int .i64 x), (.int .i64 n)] w (Qok w a h s L 1) := by
  have c0 := k.c0
  have K := Lib.hid k
  have RC := read_calls k.lies x 40 hx
  have e : readA s x 40 = ([], 1) := if_neg hw
  rw [e] at RC
  have RC := Lib.hid RC
  clear k hw e hx
  go_enter Try.func54, Try.ntmps54
  go_wp2_with fail
  refine RC.out.mono ?_
  rintro e w1 ⟨A1, c1, rfl, o1, k1⟩
  have R : Hid (Qok w a h s L 1 (.returned (.int .i64 1)) w1) := ⟨rfl, K.out.fresh k1, k1.mono fun _ _ h => h.elim⟩
  clear o1 k1
  go_wp2
  go_ret
  exact R.out
theorem put_twice (k : QLies w a h s L) (p x n : Int) (hx : x ∈ L) : Calls Try.prog 54 #[(.pointer (some ⟨h.q, 0, none⟩)), (.int .i64 p), (.int .i64 x), (.int .i64 n)] w (Qok w a h s L 4) := by
  have c0 := k.c0
  have K := Lib.hid k
  have hw := k.li.hdr x hx
  have RC := read_calls k.lies x 40 (pl_i64 (k.li.pl hx).1)
  have e : readA s x 40 = (got s x 40, 0) := if_pos hw
  rw [e] at RC
  have RC := Lib.hid RC
  have HX := Lib.hid hx
  clear k hw e hx
  go_enter Try.func54, Try.ntmps54
  go_wp2_with fail
  refine RC.out.mono ?_
  rintro e w1 ⟨A1, c1, rfl, o1, k1⟩
  have K1 := Lib.hid (K.out.fresh k1)
  have R : Hid (Qok w a h s L 4 (.returned (.int .i64 4)) w1) := ⟨rfl, K1.out, k1.mono fun _ _ h => h.elim⟩
  have lk := K1.out.look x
  rw [decide_eq_true HX.out] at lk
  have d3 := K1.out.c3
  generalize got s x 40 = l1
  clear o1 k1 c0
  go_wp2
  go_ret
  exact R.out
theorem put_ok {A C : List Int} (k : QLies w a h s (A ++ C)) (x : Int) (hw : within s x 40) (hap : ∀ y ∈ A ++ C, ArenaPure.Apart y x) :
    Calls Try.prog 54 #[(.pointer (some ⟨h.q, 0, none⟩)), (.int .i64 (A.getLastD (-1))), (.int .i64 x), (.int .i64 (C.headD (-1)))] w (Qok w a h (putS s (A.getLastD (-1)) x (C.headD (-1))) (A ++ x :: C) 0) := by
  have hs := k.li.ok
  have px := hdr_pl hs hw
  have h0 : x ≠ -1 := by omega
  have hp := last_ends k.li
  have hn := head_ends k.li
  have hni : x ∉ A ++ C := fun hm => by have := hap x hm; unfold ArenaPure.Apart at this; omega
  obtain ⟨L1, K1⟩ := put_seg k.li hw hap
  have E := join_put hp hw hn h0
  have EF := headD_put A C x (last_none k.li) h0 (C.headD (-1))
  have EL := lastD_put A C x (A.getLastD (-1)) (head_none k.li) h0
  have J1 := fun (W : World) (hl : Lies W a s) (hb : W.heap[h.q]? = some (.cells (qcells a h ((A ++ C).headD (-1)) ((A ++ C).getLastD (-1))).toArray 77 (0, 0))) => join_calls hl k.out _ _ (A.getLastD (-1)) x hb (ends_i64 hs hp) (pl_i64 px.1)
  have J2 := fun (W : World) (hl : Lies W a (j2 s (A.getLastD (-1)) x)) (hb : W.heap[h.q]? = some (.cells (qcells a h (jf ((A ++ C).headD (-1)) (A.getLastD (-1)) x) (jl ((A ++ C).getLastD (-1)) (A.getLastD (-1)) x)).toArray 77 (0, 0))) => join_calls hl k.out _ _ x (C.headD (-1)) hb (pl_i64 px.1) (ends_i64 hs hn)
  rw [E, EF, EL] at J2
  have F : Hid (∀ W, Lies W a (putS s (A.getLastD (-1)) x (C.headD (-1))) → W.heap[h.q]? = some (.cells (qcells a h ((A ++ x :: C).headD (-1)) ((A ++ x :: C).getLastD (-1))).toArray 77 (0, 0)) → MSet W h.m (x :: (A ++ C)) → Chg (Q2 a h) w W → Qok w a h (putS s (A.getLastD (-1)) x (C.headD (-1))) (A ++ x :: C) 0 (.returned (.int .i64 0)) W) := fun W hl hb hm hc => ⟨rfl, ⟨hl, L1, hb, hm.perm List.perm_middle.symm, k.out⟩, hc⟩
  have c0 := k.c0
  have RC := read_calls k.lies x 40 (pl_i64 px.1)
  have e : readA s x 40 = (got s x 40, 0) := if_pos hw
  rw [e] at RC
  have RC := Lib.hid RC
  have K := Lib.hid k
  have NI := Lib.hid hni
  have J1 := Lib.hid J1
  have J2 := Lib.hid J2
  generalize putS s (A.getLastD (-1)) x (C.headD (-1)) = s' at F J2 L1 K1 E ⊢
  generalize A.getLastD (-1) = p at *
  generalize C.headD (-1) = n at *
  clear k hw e hap hs px h0 hp hn hni L1 K1 E EF EL
  go_enter Try.func54, Try.ntmps54
  go_wp2_with fail
  refine RC.out.mono ?_
  rintro e w1 ⟨A1, c1, rfl, o1, k1⟩
  have K1 := Lib.hid (K.out.fresh k1)
  have C1 : Hid (Chg (Q2 a h) w w1) := k1.mono fun _ _ h => h.elim
  have lk := K1.out.look x
  rw [decide_eq_false NI.out] at lk
  have d3 := K1.out.c3
  generalize got s x 40 = l1
  clear o1 k1 c0
  go_wp2_with fail
  refine (J1.out w1 K1.out.lies K1.out.head).mono ?_
  rintro e w2 ⟨rfl, l2, b2, k2⟩
  have C2 : Hid (Chg (Q2 a h) w w2) := C1.out.trans (k2.mono fun i _ hi => hi.elim .inl fun e => .inr (.inl e))
  have M2 := Lib.hid (K1.out.set.chg k2 (fun e => e.elim K1.out.out.m.2.2 fun e => K1.out.out.qm e.symm))
  have JJ := Lib.hid (J2.out w2 l2 b2)
  clear l2 b2 k2 lk d3
  go_wp2_with fail
  refine JJ.out.mono ?_
  rintro e w3 ⟨rfl, l3, b3, k3⟩
  have C3 : Hid (Chg (Q2 a h) w w3) := C2.out.trans (k3.mono fun i _ hi => hi.elim .inl fun e => .inr (.inl e))
  have M3 := M2.out.chg k3 (fun e => e.elim K1.out.out.m.2.2 fun e => K1.out.out.qm e.symm)
  obtain ⟨w4, run4, M4, k4⟩ := M3.update Try.underlying75 Try.underlying3 x NI.out
  have d3 : w3.cell? ⟨h.q, 3, none⟩ = some (.map (some h.m)) := by rw [blk_cell b3]; rfl
  have R := Lib.hid (F.out w4 (l3.chg k4 (fun e => K1.out.out.m.1 e.symm) (fun e => K1.out.out.m.2.1 e.symm) fun b hb e => K1.out.out.m.2.2 (e ▸ hb)) (k4.keep b3 K1.out.out.qm) M4 (C3.out.trans (k4.mono fun i _ e => .inr (.inr e))))
  clear l3 b3 k3 M3 M4 k4
  go_wp2
  go_ret
  exact R.out
end Go.Proofs.Ytfhffffdhlofgaa.Links

/- The program's queue: Push, Insert, Remove, Tail, Before, Has, Len, New. -/
namespace Go.Proofs.Ytfhffffdhlofgaa.Links
open Go Go.RowKit Go.Proofs.Ytfhffffdhlofgaa.Mem Go.Proofs.Ytfhffffdhlofgaa.CodecPure Go.Proofs.Ytfhffffdhlofgaa.ArenaPure Go.Proofs.Ytfhffffdhlofgaa.Codec Go.Proofs.Ytfhffffdhlofgaa.Arena Go.Proofs.Ytfhffffdhlofgaa.Item
set_option linter.unusedVariables false
set_option maxRecDepth 100000
variable {w w' : World} {a : Ar} {h : Qh} {s : St} {L : List Int}
/-! ### plain words on lists -/
/-- x laid in right behind b -/
def ins (b x : Int) : List Int → List Int
  | [] => []
  | y :: ys => if y = b then y :: x :: ys else y :: ins b x ys
/-- what comes behind b -/
def nextOf (b : Int) : List Int → Int
  | [] => -1
  | y :: ys => if y = b then ys.headD (-1) else nextOf b ys
/-- what comes ahead of b -/
def prevL (b : Int) (p : Int) : List Int → Int
  | [] => -1
  | y :: ys => if y = b then p else prevL b y ys
theorem split_at (b : Int) : ∀ (L : List Int), b ∈ L → ∃ A C, L = A ++ b :: C ∧ b ∉ A ∧ (∀ x, ins b x L = A ++ b :: x :: C) ∧ nextOf b L = C.headD (-1) ∧ (∀ p, prevL b p L = A.getLastD p) ∧ L.erase b = A ++ C := by
  intro L
  induction L with
  | nil => intro h; simp at h
  | cons y ys ih =>
    intro h
    by_cases e : y = b
    · subst e
      exact ⟨[], ys, rfl, by simp, fun x => by simp [ins], by simp [nextOf], fun p => by simp [prevL], by simp⟩
    · have hm : b ∈ ys := by
        rcases List.mem_cons.1 h with h | h
        · exact absurd h.symm e
        · exact h
      obtain ⟨A, C, h1, h2, h3, h4, h5, h6⟩ := ih hm
      refine ⟨y :: A, C, by rw [h1]; rfl, ?_, fun x => by simp [ins, e, h3], by simp [nextOf, e, h4], fun p => ?_, ?_⟩
      · simp only [List.mem_cons, not_or]
        exact ⟨fun q => e q.symm, h2⟩
      · simp only [prevL, if_neg e, h5]
        exact List.getLastD_cons.symm
      · rw [List.erase_cons_tail (by simpa using e), h6]; rfl
/-! ### Push, Insert, Remove -/
def pushed (s : St) (L : List Int) (x : Int) : St × List Int × Int :=
  if within s x 40 then if x ∈ L then (s, L, 4) else (putS s (-1) x (L.headD (-1)), x :: L, 0) else (s, L, 1)
def insTail (s : St) (L : List Int) (b x : Int) : St × List Int × Int :=
  if within s x 40 then if x ∈ L then (s, L, 4) else (putS s b x (nextOf b L), ins b x L, 0) else (s, L, 1)
def inserted (s : St) (L : List Int) (b x : Int) : St × List Int × Int :=
  if b ∈ L then insTail s L b x else (s, L, 3)
def removed (s : St) (L : List Int) (x : Int) : St × List Int × Int :=
  if x ∈ L then (delS s (prevL x (-1) L) x (nextOf x L), L.erase x, 0) else (s, L, 3)
theorem push_calls (k : QLies w a h s L) (x : Int) (hx : I64 x) (hap : within s x 40 → x ∉ L → ∀ y ∈ L, ArenaPure.Apart y x) :
    Calls Try.prog 16 #[(.pointer (some ⟨h.q, 0, none⟩)), (.int .i64 x)] w (Qok w a h (pushed s L x).1 (pushed s L x).2.1 (pushed s L x).2.2) := by
  have P : Calls Try.prog 54 #[(.pointer (some ⟨h.q, 0, none⟩)), (.int .i64 (-1)), (.int .i64 x), (.int .i64 (L.headD (-1)))] w (Qok w a h (pushed s L x).1 (pushed s L x).2.1 (pushed s L x).2.2) := by
    unfold pushed
    by_cases hw : within s x 40
    · rw [if_pos hw]
      by_cases hm : x ∈ L
      · rw [if_pos hm]; exact put_twice k _ _ _ hm
      · rw [if_neg hm]
        exact put_ok (A := []) (C := L) k x hw (hap hw hm)
    · rw [if_neg hw]; exact put_no k _ _ _ hx hw
  have c1 := k.c1
  replace P := Lib.hid P
  generalize (pushed s L x).1 = s' at P ⊢
  generalize (pushed s L x).2.1 = L' at P ⊢
  generalize (pushed s L x).2.2 = er at P ⊢
  generalize L.headD (-1) = f at P c1
  clear k hap hx
  go_enter Try.func16, Try.ntmps16
  go_wp2_with fail
  refine P.out.mono ?_
  rintro e w1 ⟨rfl, k1, k2⟩
  have R : Hid (Qok w a h s' L' er (.returned (.int .i64 er)) w1) := ⟨rfl, k1, k2⟩
  clear k1 k2
  go_wp2
  go_ret
  exact R.out
theorem insert_calls (k : QLies w a h s L) (b x : Int) (hb : I64 b) (hx : I64 x) (hap : within s x 40 → x ∉ L → ∀ y ∈ L, ArenaPure.Apart y x) :
    Calls Try.prog 20 #[(.pointer (some ⟨h.q, 0, none⟩)), (.int .i64 b), (.int .i64 x)] w (Qok w a h (inserted s L b x).1 (inserted s L b x).2.1 (inserted s L b x).2.2) := by
  unfold inserted
  have c3 := k.c3
  have lk := k.look b
  by_cases hm : b ∈ L
  · rw [if_pos hm]
    rw [decide_eq_true hm] at lk
    obtain ⟨A, C, hL, hA, h3, h4, h5, h6⟩ := split_at b L hm
    subst hL
    have fl := k.li.fields
    have hw := k.li.hdr b hm
    have GC := Lib.hid (get_calls k.lies b 2 hb)
    rw [itemGet2 hw, fl.2] at GC
    have e0 : (A ++ b :: C) = (A ++ [b]) ++ C := by simp
    have el : (A ++ [b]).getLastD (-1) = b := by simp
    have P : Hid (∀ W, QLies W a h s (A ++ b :: C) → Calls Try.prog 54 #[(.pointer (some ⟨h.q, 0, none⟩)), (.int .i64 b), (.int .i64 x), (.int .i64 (C.headD (-1)))] W (Qok W a h (insTail s (A ++ b :: C) b x).1 (insTail s (A ++ b :: C) b x).2.1 (insTail s (A ++ b :: C) b x).2.2)) := fun W kW => by
      unfold insTail
      by_cases hw2 : within s x 40
      · rw [if_pos hw2]
        by_cases hm2 : x ∈ A ++ b :: C
        · rw [if_pos hm2]; exact put_twice kW _ _ _ hm2
        · rw [if_neg hm2, h3, h4]
          have kW' := kW
          rw [e0] at kW'
          have := put_ok (A := A ++ [b]) (C := C) kW' x hw2 (by rw [← e0]; exact hap hw2 hm2)
          rw [el, List.append_assoc] at this
          exact this
      · rw [if_neg hw2]; exact put_no kW _ _ _ hx hw2
    have K := Lib.hid k
    generalize insTail s (A ++ b :: C) b x = q at P ⊢
    generalize C.headD (-1) = n at P GC
    have c0 := k.c0
    clear k hap hx hm hA h3 h4 h5 h6 fl hw e0 el hb
    generalize A ++ b :: C = L at *
    go_enter Try.func20, Try.ntmps20
    go_wp2_with fail
    refine GC.out.mono ?_
    rintro e w1 ⟨rfl, k1⟩
    have P1 := Lib.hid (P.out w1 (K.out.fresh k1))
    have C1 : Hid (Chg (Q2 a h) w w1) := k1.mono fun _ _ h => h.elim
    clear k1 lk c0 c3
    go_wp2_with fail
    refine P1.out.mono ?_
    rintro e w2 ⟨rfl, l2, k2⟩
    have R : Hid (Qok w a h q.1 q.2.1 q.2.2 (.returned (.int .i64 q.2.2)) w2) := ⟨rfl, l2, C1.out.trans k2⟩
    clear l2 k2
    go_wp2
    go_ret
    exact R.out
  · rw [if_neg hm]
    rw [decide_eq_false hm] at lk
    have R : Hid (Qok w a h s L 3 (.returned (.int .i64 3)) w) := ⟨rfl, k, Chg.refl _ _⟩
    clear k hap hx hm hb
    go_enter Try.func20, Try.ntmps20
    go_wp2
    go_ret
    exact R.out
theorem remove_calls (k : QLies w a h s L) (x : Int) : Calls Try.prog 15 #[(.pointer (some ⟨h.q, 0, none⟩)), (.int .i64 x)] w (Qok w a h (removed s L x).1 (removed s L x).2.1 (removed s L x).2.2) := by
  unfold removed
  have c3 := k.c3
  have lk := k.look x
  by_cases hm : x ∈ L
  · rw [if_pos hm]
    rw [decide_eq_true hm] at lk
    obtain ⟨A, C, hL, hA, h3, h4, h5, h6⟩ := split_at x L hm
    rw [h4, h5, h6]
    subst hL
    have hs := k.li.ok
    have fl := k.li.fields
    have hw := k.li.hdr x hm
    have px := hdr_pl hs hw
    have e0 : (A ++ x :: C) = (A ++ [x]) ++ C := by simp
    have hp := last_ends (A := A) k.li
    have hn : C.headD (-1) = -1 ∨ within s (C.headD (-1)) 40 := head_ends (A := A ++ [x]) (by rw [← e0]; exact k.li)
    have hpn := last_none (A := A) k.li
    have hnn : C.headD (-1) = -1 ↔ C = [] := head_none (A := A ++ [x]) (by rw [← e0]; exact k.li)
    obtain ⟨L1, K1, -, -⟩ := del_seg k.li
    have E := join_del hp hw hn
    have o1 := j2_own hp hn
    have GC1 := Lib.hid (fun (W : World) (hl : Lies W a s) => get_calls hl x 1 (pl_i64 px.1))
    have GC2 := Lib.hid (fun (W : World) (hl : Lies W a s) => get_calls hl x 2 (pl_i64 px.1))
    rw [itemGet1 hw, fl.1] at GC1
    rw [itemGet2 hw, fl.2] at GC2
    have J := fun (W : World) (hl : Lies W a s) (hb : W.heap[h.q]? = some (.cells (qcells a h ((A ++ x :: C).headD (-1)) ((A ++ x :: C).getLastD (-1))).toArray 77 (0, 0))) => join_calls hl k.out _ _ (A.getLastD (-1)) (C.headD (-1)) hb (ends_i64 hs hp) (ends_i64 hs hn)
    have EF : jf ((A ++ x :: C).headD (-1)) (A.getLastD (-1)) (C.headD (-1)) = (A ++ C).headD (-1) := by
      unfold jf
      cases A with
      | nil => rw [if_pos (hpn.2 rfl)]; rfl
      | cons y A' => rw [if_neg (fun e => by have := hpn.1 e; cases this)]; rfl
    have EL : jl ((A ++ x :: C).getLastD (-1)) (A.getLastD (-1)) (C.headD (-1)) = (A ++ C).getLastD (-1) := by
      unfold jl
      cases C with
      | nil => rw [if_pos (hnn.2 rfl)]; simp
      | cons y C' => rw [if_neg (fun e => by have := hnn.1 e; cases this)]; simp
    rw [EF, EL] at J
    have J := Lib.hid J
    have S1 := Lib.hid (fun (W : World) (hl : Lies W a (j2 s (A.getLastD (-1)) (C.headD (-1)))) => set_calls hl x 1 (-1) (pl_i64 px.1) (by decide))
    have S2 := Lib.hid (fun (W : World) (hl : Lies W a (itemSet (j2 s (A.getLastD (-1)) (C.headD (-1))) x 1 (-1)).1) => set_calls hl x 2 (-1) (pl_i64 px.1) (by decide))
    rw [E] at S2
    have F : Hid (∀ W, Lies W a (delS s (A.getLastD (-1)) x (C.headD (-1))) → W.heap[h.q]? = some (.cells (qcells a h ((A ++ C).headD (-1)) ((A ++ C).getLastD (-1))).toArray 77 (0, 0)) → MSet W h.m ((A ++ x :: C).erase x) → Chg (Q2 a h) w W → Qok w a h (delS s (A.getLastD (-1)) x (C.headD (-1))) (A ++ C) 0 (.returned (.int .i64 0)) W) := fun W hl hb hm2 hc => ⟨rfl, ⟨hl, L1, hb, by rw [h6] at hm2; exact hm2, k.out⟩, hc⟩
    have c0 := k.c0
    have K := Lib.hid k
    have HM := Lib.hid hm
    generalize delS s (A.getLastD (-1)) x (C.headD (-1)) = s' at F S2 L1 K1 E ⊢
    generalize j2 s (A.getLastD (-1)) (C.headD (-1)) = sj at *
    generalize A.getLastD (-1) = p at *
    generalize C.headD (-1) = n at *
    clear k hm hA h3 h4 h5 h6 fl hw px e0 hp hn hpn hnn L1 K1 E o1 EF EL hs
    go_enter Try.func15, Try.ntmps15
    go_wp2_with fail
    refine (GC1.out w K.out.lies).mono ?_
    rintro e w1 ⟨rfl, k1⟩
    have K1 := Lib.hid (K.out.fresh k1)
    have C1 : Hid (Chg (Q2 a h) w w1) := k1.mono fun _ _ h => h.elim
    have d0 := K1.out.c0
    clear k1 lk c0 c3
    go_wp2_with fail
    refine (GC2.out w1 K1.out.lies).mono ?_
    rintro e w2 ⟨rfl, k2⟩
    have K2 := Lib.hid (K1.out.fresh k2)
    have C2 : Hid (Chg (Q2 a h) w w2) := C1.out.trans (k2.mono fun _ _ h => h.elim)
    clear k2 d0 GC1 GC2
    go_wp2_with fail
    refine (J.out w2 K2.out.lies K2.out.head).mono ?_
    rintro e w3 ⟨rfl, l3, b3, k3⟩
    have C3 : Hid (Chg (Q2 a h) w w3) := C2.out.trans (k3.mono fun i _ hi => hi.elim .inl fun e => .inr (.inl e))
    have M3 := Lib.hid (K2.out.set.chg k3 (fun e => e.elim K.out.out.m.2.2 fun e => K.out.out.qm e.symm))
    have d0 : w3.cell? ⟨h.q, 0, none⟩ = some (.pointer (some ⟨a.g, 0, none⟩)) := by rw [blk_cell b3]; rfl
    have SS1 := Lib.hid (S1.out w3 l3)
    have B3 := Lib.hid b3
    clear l3 b3 k3 J S1
    go_wp2_with fail
    refine SS1.out.mono ?_
    rintro e w4 ⟨rfl, l4, k4⟩
    have C4 : Hid (Chg (Q2 a h) w w4) := C3.out.trans (k4.mono fun i _ hi => .inl hi)
    have M4 := Lib.hid (M3.out.chg k4 K.out.out.m.2.2)
    have b4 := k4.keep B3.out K.out.out.q.2.2
    have e0 : w4.cell? ⟨h.q, 0, none⟩ = some (.pointer (some ⟨a.g, 0, none⟩)) := by rw [blk_cell b4]; rfl
    have SS2 := Lib.hid (S2.out w4 l4)
    have B4 := Lib.hid b4
    clear l4 b4 k4 S2 SS1 d0
    go_wp2_with fail
    refine SS2.out.mono ?_
    rintro e w5 ⟨rfl, l5, k5⟩
    have C5 : Hid (Chg (Q2 a h) w w5) := C4.out.trans (k5.mono fun i _ hi => .inl hi)
    have M5 := M4.out.chg k5 K.out.out.m.2.2
    have b5 := k5.keep B4.out K.out.out.q.2.2
    have g3 : w5.cell? ⟨h.q, 3, none⟩ = some (.map (some h.m)) := by rw [blk_cell b5]; rfl
    obtain ⟨w6, run6, M6, k6⟩ := M5.delete Try.underlying75 Try.underlying3 x HM.out 0 3
    have R := Lib.hid (F.out w6 (l5.chg k6 (fun e => K.out.out.m.1 e.symm) (fun e => K.out.out.m.2.1 e.symm) fun b hb e => K.out.out.m.2.2 (e ▸ hb)) (k6.keep b5 K.out.out.qm) M6 (C5.out.trans (k6.mono fun i _ e => .inr (.inr e))))
    clear l5 b5 k5 M5 M6 k6 e0 SS2
    go_wp2
    go_ret
    exact R.out
  · rw [if_neg hm]
    rw [decide_eq_false hm] at lk
    have R : Hid (Qok w a h s L 3 (.returned (.int .i64 3)) w) := ⟨rfl, k, Chg.refl _ _⟩
    clear k hm
    go_enter Try.func15, Try.ntmps15
    go_wp2
    go_ret
    exact R.out
/-! ### what only reads -/
theorem has_calls (k : QLies w a h s L) (x : Int) : Calls Try.prog 23 #[(.pointer (some ⟨h.q, 0, none⟩)), (.int .i64 x)] w fun e w' => e = .returned (.bool (decide (x ∈ L))) ∧ w = w' := by
  have c3 := k.c3
  have lk := k.look x
  generalize decide (x ∈ L) = b at lk ⊢
  clear k
  go_enter Try.func23, Try.ntmps23
  go_wp2
  go_ret
  exact ⟨rfl, rfl⟩
theorem len_calls (k : QLies w a h s L) : Calls Try.prog 18 #[(.pointer (some ⟨h.q, 0, none⟩))] w fun e w' => e = .returned (.int .i64 L.length) ∧ w = w' := by
  have c3 := k.c3
  have ln := k.set.len Try.underlying75 3
  generalize L.length = n at ln ⊢
  clear k
  go_enter Try.func18, Try.ntmps18
  go_wp2
  go_ret
  exact ⟨rfl, rfl⟩
def tail (L : List Int) : Int × Bool := if L = [] then (0, false) else (L.getLastD (-1), true)
theorem tail_calls (k : QLies w a h s L) : Calls Try.prog 17 #[(.pointer (some ⟨h.q, 0, none⟩))] w fun e w' => e = .returned (.tuple #[.int .i64 (tail L).1, .bool (tail L).2]) ∧ w = w' := by
  unfold tail
  have c2 := k.c2
  have e : L.getLastD (-1) = -1 ↔ L = [] := last_none (A := L) (C := []) (by rw [List.append_nil]; exact k.li)
  by_cases hL : L = []
  · rw [if_pos hL]
    rw [e.2 hL] at c2
    clear k e hL
    go_enter Try.func17, Try.ntmps17
    go_wp2
    go_ret2
    exact ⟨rfl, rfl⟩
  · rw [if_neg hL]
    have t : (L.getLastD (-1) == -1) = false := by rw [beq_eq_false_iff_ne]; exact fun q => hL (e.1 q)
    generalize L.getLastD (-1) = n at c2 t ⊢
    clear k e hL
    go_enter Try.func17, Try.ntmps17
    go_wp2
    go_ret2
    exact ⟨rfl, rfl⟩
def before (L : List Int) (x : Int) : Int × Bool := if x ∈ L ∧ x ≠ L.headD (-1) then (prevL x (-1) L, true) else (0, false)
theorem before_calls (k : QLies w a h s L) (x : Int) : Calls Try.prog 24 #[(.pointer (some ⟨h.q, 0, none⟩)), (.int .i64 x)] w (fun e w' => e = .returned (.tuple #[.int .i64 (before L x).1, .bool (before L x).2]) ∧ Chg (fun _ => False) w w') := by
  unfold before
  have c3 := k.c3
  have c1 := k.c1
  have c0 := k.c0
  have lk := k.look x
  by_cases hm : x ∈ L
  · rw [decide_eq_true hm] at lk
    by_cases hh : x = L.headD (-1)
    · rw [if_neg (fun q => q.2 hh)]
      have t : (x == L.headD (-1)) = true := by rw [beq_iff_eq]; exact hh
      generalize L.headD (-1) = n at c1 t
      clear k hm hh
      go_enter Try.func24, Try.ntmps24
      go_wp2
      go_ret2
      exact ⟨rfl, Chg.refl _ _⟩
    · rw [if_pos ⟨hm, hh⟩]
      have t : (x == L.headD (-1)) = false := by rw [beq_eq_false_iff_ne]; exact hh
      obtain ⟨A, C, hL, hA, h3, h4, h5, h6⟩ := split_at x L hm
      rw [h5]
      have fl := (by have := k.li; rw [hL] at this; exact this : LI s (A ++ x :: C)).fields
      have hw := k.li.hdr x hm
      have GC := Lib.hid (get_calls k.lies x 1 (pl_i64 (k.li.pl hm).1))
      rw [itemGet1 hw, fl.1] at GC
      generalize A.getLastD (-1) = p at GC ⊢
      generalize L.headD (-1) = n at c1 t
      clear k hm hh hL hA h3 h4 h5 h6 fl hw
      go_enter Try.func24, Try.ntmps24
      go_wp2_with fail
      refine GC.out.mono ?_
      rintro e w1 ⟨rfl, k1⟩
      have K1 := Lib.hid k1
      clear k1
      go_wp2
      go_ret2
      exact ⟨rfl, K1.out⟩
  · rw [if_neg (fun q => hm q.1)]
    rw [decide_eq_false hm] at lk
    clear k hm
    go_enter Try.func24, Try.ntmps24
    go_wp2
    go_ret2
    exact ⟨rfl, Chg.refl _ _⟩
/-- a queue of the call's own, without items -/
theorem qnew_calls (hl : Lies w a s) : Calls Try.prog 14 #[(.pointer (some ⟨a.g, 0, none⟩))] w fun e w' => ∃ h : Qh, e = .returned (.pointer (some ⟨h.q, 0, none⟩)) ∧ QLies w' a h s [] ∧ Chg (fun _ => False) w w' ∧ w.heap.size ≤ h.q ∧ w.heap.size ≤ h.m := by
  have hmm := @run_makeMap Try.prog
  have lg := blk_lt hl.head
  have lp : a.ps < w.heap.size := World.block_lt_of_cell? w _ (hl.row 0 hl.ok.low)
  have far : ∀ x, w.heap.size ≤ x → x ≠ a.g ∧ x ≠ a.ps ∧ x ∉ a.pb := fun x hx => ⟨by omega, fun e => by subst e; omega, fun hb => by
    obtain ⟨i, hi, e⟩ := hl.of_mem hb
    have := blk_lt (hl.page i hi)
    omega⟩
  have R : Hid (∀ e w', e = Ending.returned (.pointer (some ⟨w.heap.size + 1, 0, none⟩)) → w' = (w.alloc (.map #[] 0)).alloc (.cells (qcells a ⟨w.heap.size + 1, w.heap.size⟩ (-1) (-1)).toArray 77) → ∃ h : Qh, e = .returned (.pointer (some ⟨h.q, 0, none⟩)) ∧ QLies w' a h s [] ∧ Chg (fun _ => False) w w' ∧ w.heap.size ≤ h.q ∧ w.heap.size ≤ h.m) := fun e w' he hw => by
    subst hw
    refine ⟨⟨w.heap.size + 1, w.heap.size⟩, he, ⟨(hl.chg (Chg.alloc _ _ _) id id fun _ _ => id).chg (Chg.alloc (fun _ => False) _ _) id id (fun _ _ => id), ⟨hl.ok, fun x hx => by simp at hx, List.Pairwise.nil, trivial⟩, ?_, (MSet.made w).chg (Chg.alloc (fun _ => False) _ _) id, ⟨far _ (by show _ ≤ w.heap.size + 1; omega), far _ (Nat.le_refl _), by show w.heap.size + 1 ≠ w.heap.size; omega⟩⟩, (Chg.alloc _ _ _).trans (Chg.alloc _ _ _), by show _ ≤ w.heap.size + 1; omega, Nat.le_refl _⟩
    have := heap_alloc_at (w.alloc (.map #[] 0)) (.cells (qcells a ⟨w.heap.size + 1, w.heap.size⟩ (-1) (-1)).toArray 77)
    rw [World.size_alloc] at this
    exact this
  clear far lg lp hl
  go_enter Try.func14, Try.ntmps14
  go_wp2
  go_ret
  exact R.out _ _ rfl rfl
end Go.Proofs.Ytfhffffdhlofgaa.Links

/- The program's queue: items (a function to range over) and List. -/
namespace Go.Proofs.Ytfhffffdhlofgaa.Links
open Go Go.RowKit Go.Shelf Go.Proofs.Ytfhffffdhlofgaa.Mem Go.Proofs.Ytfhffffdhlofgaa.CodecPure Go.Proofs.Ytfhffffdhlofgaa.ArenaPure Go.Proofs.Ytfhffffdhlofgaa.Codec Go.Proofs.Ytfhffffdhlofgaa.Arena Go.Proofs.Ytfhffffdhlofgaa.Item
set_option linter.unusedVariables false
set_option maxRecDepth 100000
attribute [local go_sem] Oper.semAt_some
variable {w w' : World} {a : Ar} {h : Qh} {s : St} {L : List Int}
/-- how many items are still to come -/
def toCome (L : List Int) : Value → Nat
  | .int _ x => if x ∈ L then L.length - L.idxOf x else 0
  | _ => 0
theorem toCome_int (L : List Int) (k : IntKind) (x : Int) : toCome L (.int k x) = if x ∈ L then L.length - L.idxOf x else 0 := rfl
theorem idx_mid {A : List Int} {x : Int} {C : List Int} (h : x ∉ A) : (A ++ x :: C).idxOf x = A.length := by
  induction A with
  | nil => simp
  | cons y A ih =>
    simp only [List.mem_cons, not_or] at h
    rw [List.cons_append, List.idxOf_cons, ih h.2]
    have : (y == x) = false := by rw [beq_eq_false_iff_ne]; exact fun e => h.1 e.symm
    rw [this]; rfl
theorem toCome_at {A : List Int} {x : Int} {C : List Int} (h : (A ++ x :: C).Nodup) : toCome (A ++ x :: C) (.int .i64 x) = C.length + 1 := by
  have hx : x ∉ A := fun hm => (List.nodup_append.1 h).2.2 x hm x (by simp) rfl
  rw [toCome_int, if_pos (by simp), idx_mid hx, List.length_append, List.length_cons]; omega
theorem toCome_less {A : List Int} {x : Int} {C : List Int} (h : (A ++ x :: C).Nodup) (hn : (-1 : Int) ∉ A ++ x :: C) : toCome (A ++ x :: C) (.int .i64 (C.headD (-1))) < toCome (A ++ x :: C) (.int .i64 x) := by
  rw [toCome_at h]
  cases C with
  | nil =>
    show toCome _ (.int .i64 (-1)) < _
    rw [toCome_int, if_neg hn]; simp
  | cons y C =>
    have e : A ++ x :: y :: C = (A ++ [x]) ++ y :: C := by simp
    show toCome _ (.int .i64 y) < _
    rw [e] at h ⊢
    rw [toCome_at h, List.length_cons]; omega
theorem grown_of_chg (hc : Chg (fun _ => False) w w') : w.grownBy w' none := ⟨hc.os, hc.tape, hc.output, hc.size, fun b hb _ => hc.block b hb id⟩
/-- what a round keeps: all that lay below n₀, and the box Bn -/
def Kp (n₀ Bn : Nat) (A B : World) : Prop := Below n₀ A B ∧ B.heap[Bn]? = A.heap[Bn]?
theorem Kp.trans {n₀ Bn : Nat} {A B C : World} (h : Kp n₀ Bn A B) (k : Kp n₀ Bn B C) : Kp n₀ Bn A C := ⟨h.1.trans k.1, k.2.trans h.2⟩
theorem Kp.cell {n₀ Bn : Nat} {A B : World} (h : Kp n₀ Bn A B) : B.cell? ⟨Bn, 0, none⟩ = A.cell? ⟨Bn, 0, none⟩ := by
  unfold World.cell?
  rw [h.2]
set_option maxHeartbeats 1000000 in
/-- items' function: for every body that keeps what lay below n₀ -/
theorem items1_in (F : Fence) (n : Nat) (hf : F.fn 79) (hg : F.fn 22) (hro : F.round = none) (hn : 1 ≤ n) (l Bn n₀ : Nat) (J Jx : List Int → World → Prop)
    (GC : ∀ W x C A, Chg (fun _ => False) w W → L = A ++ x :: C → CallsIn F (n - 1) Try.prog 22 #[(.pointer (some ⟨a.g, 0, none⟩)), (.int .i64 x), (.int .i64 2)] W (Ans2 W (C.headD (-1)) 0))
    (W : World) (hJ : AbidesFrom W.heap.size J) (hn₀ : w.heap.size ≤ n₀) (hn₁ : n₀ ≤ W.heap.size)
    (hY : ∀ pre x W, J pre W → pre.length < L.length → YieldAt F (n - 1) Try.prog l #[.int .i64 x] W fun e W' =>
      (e = .returned (.bool true) ∧ J (pre ++ [x]) W' ∧ Kp n₀ Bn W W') ∨ (e = .returned (.bool false) ∧ Jx (pre ++ [x]) W'))
    (hBn : Bn < W.heap.size) (hc : W.cell? ⟨Bn, 0, none⟩ = some (.pointer (some ⟨h.q, 0, none⟩))) (k : QLies w a h s L) (hW : Chg (fun _ => False) w W) (h0 : J [] W) :
    CallsIn F n Try.prog 79 #[.func (.yield l) #[] #[], (.pointer (some ⟨Bn, 0, none⟩))] W fun e W' => (∃ v, e = .returned v) ∧
      ((∃ ys, ys = L ∧ J ys W') ∨ (∃ pre, pre <+: L ∧ Jx pre W')) := by
  have hm1 : (-1 : Int) ∉ L := fun hm => by have := (k.li.pl hm).2; omega
  have hnd := k.li.nodup
  have lq := blk_lt k.head
  have kW := k.fresh hW
  have c1 := kW.c1
  have hnW : ∀ W', Below n₀ W W' → QLies W' a h s L ∧ Chg (fun _ => False) w W' := fun W' hb => by
    have : Chg (fun _ => False) w W' := ⟨hb.os.trans hW.os, hb.tape.trans hW.tape, hb.output.trans hW.output, Nat.le_trans hW.size hb.size, fun b hb' _ => (hb.block b (by omega)).trans (hW.block b hb' id)⟩
    exact ⟨k.fresh this, this⟩
  replace GC := Lib.hid GC
  replace hnW := Lib.hid hnW
  replace hY := Lib.hid hY
  replace hJ := Lib.hid hJ
  refine callsIn_of_wp Try.func79 rfl hf ?_ hro
  simp only [Try.ntmps79, List.size_toArray, List.length_cons, List.length_nil, Nat.reduceAdd, Nat.reduceSub, Array.replicate_succ, Array.replicate_zero, List.push_toArray, List.append_toArray, List.nil_append, List.cons_append]
  generalize hfirst : L.headD (-1) = first at c1
  clear kW k
  gi_wp2
  gi_loopw [3] (fun p wr => ∃ (pre rest : List Int), p = .int .i64 (rest.headD (-1)) ∧ L = pre ++ rest ∧ Kp n₀ Bn W wr ∧ J pre wr) (fun p wr => toCome L p)
  case atStart =>
    exact ⟨[], L, by rw [hfirst], rfl, ⟨Below.refl _ _, rfl⟩, h0⟩
  case round =>
    obtain ⟨pre, rest, rfl, hx, hb, hJs⟩ := hrel
    cases rest with
    | nil =>
      dsimp only [List.headD_nil] at *
      clear hnd hm1 c1 hfirst GC hnW hY
      gi_wp2
      refine ⟨fun _ h => (by cases h), ?_⟩
      gi_wp2
      go_end0
      exact ⟨⟨_, rfl⟩, .inl ⟨pre, by simp [hx], hJs⟩⟩
    | cons x rest =>
      have t : (x != -1) = true := by rw [bne_iff_ne]; exact fun e => hm1 (by rw [hx, ← e]; simp)
      obtain ⟨fn, tmps, assign, body, hy, hR⟩ := hY.out pre x wr hJs (by rw [hx]; simp)
      replace hR := Lib.hid hR
      have hd : (x :: rest).headD (-1) = x := rfl
      rw [hd]
      clear hd
      gi_wp2
      refine hR.out.mono ?_
      rintro e W3 (⟨rfl, hJ3, hk3⟩ | ⟨rfl, hJx3⟩)
      · obtain ⟨k3, f3⟩ := hnW.out W3 (hb.trans hk3).1
        have d1 : W3.cell? ⟨Bn, 0, none⟩ = some (.pointer (some ⟨h.q, 0, none⟩)) := (hb.trans hk3).cell.trans hc
        have d0 := k3.c0
        have C3 := GC.out W3 x rest pre f3 hx
        have hlt := toCome_less (by rw [← hx]; exact hnd) (by rw [← hx]; exact hm1)
        rw [← hx] at hlt
        have J3 := Lib.hid hJ3
        have B3 := Lib.hid (hb.trans hk3)
        have X := Lib.hid hx
        clear k3 f3 hk3 hb hJ3 hJs c1 hc hfirst hx hm1 hnd GC hY hR hnW
        generalize hnx : rest.headD (-1) = nx at C3 hlt
        replace hnx := Lib.hid hnx
        gi_wp2_with (gi_at_call 22; refine C3.mono ?_; rintro e w4 ⟨rfl, f4⟩; have F4 := Lib.hid f4; clear f4 C3 d1 d0)
        go_roundw
        case rel => exact ⟨pre ++ [x], rest, by rw [hnx.out], by rw [X.out]; simp, ⟨⟨F4.out.os.trans B3.out.1.os, F4.out.tape.trans B3.out.1.tape, F4.out.output.trans B3.out.1.output, Nat.le_trans B3.out.1.size F4.out.size, fun b hb => (F4.out.block b (Nat.lt_of_lt_of_le hb (Nat.le_trans hn₁ B3.out.1.size)) id).trans (B3.out.1.block b hb)⟩, (F4.out.block Bn (Nat.lt_of_lt_of_le hBn B3.out.1.size) id).trans B3.out.2⟩, hJ.out _ _ _ none J3.out (grown_of_chg F4.out) (fun r e => by cases e)⟩
        case measure => exact hlt
      · clear hnd hm1 c1 hfirst GC hnW hY hR
        gi_wp2
        go_end0
        exact ⟨⟨_, rfl⟩, .inr ⟨pre ++ [x], ⟨rest, by simp [hx]⟩, hJx3⟩⟩
theorem items_calls (q : Nat) : Calls Try.prog 55 #[(.pointer (some ⟨q, 0, none⟩))] w fun e w' => e = .returned (.func (.func 79) #[] #[(.pointer (some ⟨w.heap.size, 0, none⟩))]) ∧ w' = w.alloc (.cells #[(.pointer (some ⟨q, 0, none⟩))] 28) := by
  go_enter Try.func55, Try.ntmps55
  go_wp2
  go_ret
  exact ⟨rfl, rfl⟩
theorem items_stops (F : Fence) (n : Nat) (hf : F.fn 79) (hg : F.fn 22) (hro : F.round = none) (hn : 1 ≤ n) (Bn n₀ : Nat) (w1 : World)
    (GC : ∀ W x C A, Chg (fun _ => False) w W → L = A ++ x :: C → CallsIn F (n - 1) Try.prog 22 #[(.pointer (some ⟨a.g, 0, none⟩)), (.int .i64 x), (.int .i64 2)] W (Ans2 W (C.headD (-1)) 0))
    (hn₀ : w.heap.size ≤ n₀) (hB : Bn < w1.heap.size) (h1 : n₀ ≤ w1.heap.size) (hc : w1.cell? ⟨Bn, 0, none⟩ = some (.pointer (some ⟨h.q, 0, none⟩))) (k : QLies w a h s L) (hw : Chg (fun _ => False) w w1) :
    SeqStopsK F n Try.prog 79 #[(.pointer (some ⟨Bn, 0, none⟩))] (fun x : Int => #[Value.int .i64 x]) (Kp n₀ Bn) (fun ys => ys = L) (fun pre => pre <+: L) L.length w1 := fun l J Jx W hW hJ _ hY h0 =>
  items1_in F n hf hg hro hn l Bn n₀ J Jx GC W hJ hn₀ (Nat.le_trans h1 hW.size) hY (Nat.lt_of_lt_of_le hB hW.size) ((hW.cell (p := ⟨Bn, 0, none⟩) hB).trans hc) k (hw.trans (Chg.of_below hW)) h0
theorem info_int : (Try.prog.info? 3).map (fun i => (i.zero, i.size, i.bytes)) = some (some (.int .i64 0), 1, 8) := by kernel_rfl
set_option maxHeartbeats 2000000 in
theorem list_calls (k : QLies w a h s L) (hlen : L.length ≤ 1000000) : Calls Try.prog 19 #[(.pointer (some ⟨h.q, 0, none⟩))] w (fun e w' => ∃ v, e = .returned v ∧ Mem.Own w' w.heap.size 3 .i64 v L ∧ Chg (fun _ => False) w w') := by
  have GC := fun (W : World) (x : Int) (C A : List Int) (hc : Chg (fun _ => False) w W) (hx : L = A ++ x :: C) => by
    have hm : x ∈ L := by rw [hx]; simp
    have fl := (by have := k.li; rw [hx] at this; exact this : LI s (A ++ x :: C)).fields
    have := get_calls (k.fresh hc).lies x 2 (pl_i64 (k.li.pl hm).1)
    rw [itemGet2 (k.li.hdr x hm), fl.2] at this
    exact this
  refine (callsIn_wide (n := 3)).1 ?_
  obtain ⟨i0, hi, hz0, hz1, hz2⟩ := info_parts info_int
  refine callsIn_of_wp_marks Try.func19 rfl trivial ?_ rfl
  simp only [Try.ntmps19, List.size_toArray, List.length_cons, List.length_nil, Nat.reduceAdd, Nat.reduceSub, Array.replicate_succ, Array.replicate_zero, List.push_toArray, List.append_toArray, List.nil_append, List.cons_append]
  have IC := fun (W : World) => items_calls (w := W) h.q
  gi_wp2_with (refine ⟨trivial, ?_⟩; gi_at_call 55; refine (callsIn_wide.2 (IC _)).mono ?_; rintro e w' ⟨rfl, rfl⟩)
  have bO := Boxed.new w 30 (.slice none 0 0)
  have bN := Boxed.new (w.alloc (.cells #[.slice none 0 0] 30)) 28 (.pointer (some ⟨h.q, 0, none⟩))
  rw [World.size_alloc] at bN
  have hB0 : Below w.heap.size w ((w.alloc (.cells #[.slice none 0 0] 30)).alloc (.cells #[(.pointer (some ⟨h.q, 0, none⟩))] 28)) := ((Below.refl _ w).alloc (Nat.le_refl _) _).alloc (by simp) _
  have hst := items_stops Fence.wide 2 trivial trivial rfl (by decide) (w.heap.size + 1) w.heap.size ((w.alloc (.cells #[.slice none 0 0] 30)).alloc (.cells #[(.pointer (some ⟨h.q, 0, none⟩))] 28)) (fun W x C A hc hx => callsIn_wide.2 (GC W x C A hc hx)) (Nat.le_refl _) (by simp) (by simp; omega) bN.cell k (Chg.of_below hB0)
  refine wpIn_rangeFunc_ownG rfl (by decide) (gf := 79) (lb := #[(.pointer (some ⟨w.heap.size + 1, 0, none⟩))]) rfl trivial (enters_of Try.func79 (by kernel_rfl) rfl) hst
    (fun h k => h.trans k) (fun W l o o' hl h1 h2 h3 => ⟨belowK_b (w := (w.alloc (.cells #[.slice none 0 0] 30)).alloc (.cells #[(.pointer (some ⟨h.q, 0, none⟩))] 28)) (by simp; omega) W l o o' hl h1 h2 h3, World.putObj_heap_other (by simp at hl; omega)⟩) (Below.refl _ _) (fun _ => rfl)
    (fun pre W => (∃ v, Boxed W w.heap.size 30 v ∧ W.ownsRow w.heap.size 3 1 v pre.length (nums .i64 pre) ∧ True) ∧ Boxed W (w.heap.size + 1) 28 (.pointer (some ⟨h.q, 0, none⟩)) ∧ Below w.heap.size w W)
    (fun _ _ _ => False)
    (OwnFrom.and (Own.from (holdsRow_own w.heap.size w.heap.size 30 3 1 (fun pre => pre.length) (fun pre => nums .i64 pre) (fun pre v => True)) _) (OwnFrom.and (Own.from (boxed_own _ _ _) _) (ownFrom_below (Nat.le_refl _) (by simp; omega))))
    (fun _ _ _ _ _ hs _ _ => hs)
    ⟨⟨_, bO.alloc _, World.ownsRow_nil _ _ _ _, trivial⟩, bN, hB0⟩
    (fun x => { tmps := #[(.pointer (some ⟨h.q, 0, none⟩)), undef, .slice none 0 0, (.pointer (some ⟨w.heap.size, 0, none⟩)), (.int .i64 x), (.pointer (some ⟨h.q, 0, none⟩)), .func (.func 79) #[] #[(.pointer (some ⟨w.heap.size + 1, 0, none⟩))], (.int .i64 x), undef, undef, undef, undef, undef], defers := [] }) ?assign ?body ?done ?stop
  case assign =>
    intro l x W K hK
    gi_wp2
    exact hK
  case body =>
    rintro l pre x W ⟨⟨v, hv, hrow, -⟩, hN, hB⟩ hlt
    have hc := hv.cell
    have hpl : pre.length + 1 ≤ maxLen ∧ (pre.length + 1) * 8 ≤ 140737488355328 := ⟨by unfold maxLen; omega, by omega⟩
    clear hst bO bN hB0 GC IC k
    gi_wp2_with (gi_at_builtin; refine wpListIn_append_own _ rfl _ _ 30 rfl w.heap.size 3 i0 (.int .i64 0) 1 8 Try.underlying30 hi hz0 hz1 hz2 rfl (by decide) _ _ _ rfl (hrow.alloc _) ⟨W.heap.size, 0, none⟩ 1 1 [.int .i64 x] rfl rfl (cell_one_new _ _ _) (by simp [Value.oneCell']) hpl.1 hpl.2 (by have := hB.size; simp; omega) ?_; intro v' w1 hown' hgrow _; obtain ⟨g', cap', rfl⟩ := ownsRow_succ hown'; have hn1 := ((hN.alloc _).kept hgrow (hN.not_row (by decide) hrow)).kept (grownBy_setCell' w1 w.heap.size (.slice (some ⟨g', 0, none⟩) (pre.length + 1) cap')) (by simp); obtain ⟨hv1, hv2, hr2, hk2, hb2⟩ := hv.appended (by decide) hrow hB.size (Nat.le_refl _) hown' hgrow; have hc1 := hv1.cell; have hf1 := hv1.frozen)
    exact ⟨hk2.from _, ⟨hb2, hn1.trans hN.symm⟩, ⟨_, hv2, by rw [List.length_append, List.length_singleton, nums_append]; exact hr2, trivial⟩, hn1, hB.trans hb2⟩
  case done =>
    rintro D ys W hD rfl ⟨⟨v, hv, hrow, -⟩, hN, hB⟩ hK
    have hc := hv.cell
    gi_wp2
    refine ⟨by simp, .inl ⟨_, _, rfl, run_takeDeferred hK, ?_⟩⟩
    exact ⟨_, results_tmp rfl _ _ _, v, rfl, ownsRow_putObj hrow _ hK rfl, Chg.of_below (hB.trans (belowK_b (w := w) (Nat.le_refl _) W D _ _ (by simp at hD; omega) hK rfl rfl))⟩
  case stop =>
    rintro D c pre W _ _ h _
    exact h.elim
end Go.Proofs.Ytfhffffdhlofgaa.Links

/- The walk of chapter 08's Made, without bytes: both arenas, all pages but one granted. -/
namespace Go.Proofs.Ytfhffffdhlofgaa.Arena
open Go Go.RowKit Go.Proofs.Ytfhffffdhlofgaa.Mem Go.Proofs.Ytfhffffdhlofgaa.CodecPure Go.Proofs.Ytfhffffdhlofgaa.ArenaPure Go.Proofs.Ytfhffffdhlofgaa.Codec
set_option linter.unusedVariables false
set_option maxRecDepth 100000
theorem Two.began {w w1 w2 : World} {a : Ar} {r : Ra} {s : St} (hl : Lies w1 a s) (hc : Chg (fun _ => False) w w1) (h1 : w.heap.size ≤ a.g) (h2 : w.heap.size ≤ a.ps) (h3 : ∀ b ∈ a.pb, w.heap.size ≤ b) (h4 : ∀ b ∈ a.pb, b < w1.heap.size) (h5 : a.ps < w1.heap.size)
    (hr : RLies w2 r s) (hc2 : Chg (fun _ => False) w1 w2) (g1 : w1.heap.size ≤ r.g) (g2 : w1.heap.size ≤ r.o) (g3 : w1.heap.size ≤ r.b) : Two w.heap.size w w2 a r s s := by
  have z := hc.size
  have zg := blk_lt hl.head
  have far : ∀ x, w1.heap.size ≤ x → x ≠ a.g ∧ x ≠ a.ps ∧ x ∉ a.pb := fun x hx => ⟨by omega, by omega, fun hb => by have := h4 x hb; omega⟩
  refine ⟨⟨hl.chg hc2 id id fun _ _ => id, (hc.trans hc2).mono fun _ _ h => h.elim, h1, h2, h3⟩, hr, ⟨by omega, by omega, by omega⟩, fun x hx => ?_⟩
  rcases hx with rfl | rfl | rfl
  · exact far _ g1
  · exact far _ g2
  · exact far _ g3
/-- after k grants of class 1 -/
def granting (s : St) : Nat → St
  | 0 => s
  | k + 1 => (ArenaPure.grant (granting s k) 1).1
/-- Made's arena of m pages -/
def madeS (m : Nat) : St := granting (new m) (m - 1)
set_option maxHeartbeats 4000000 in
theorem made_calls (n : Int) (w : World) (q : Nat) (hq : q < 6) (q1 : (IntKind.u64.wrap n).tmod 6 = q) (q2 : IntKind.u64.wrap n % 6 = q) :
    Calls Try.prog 13 #[(.int .i64 n), .slice none 0 0] w fun e w' => ∃ a r, e = .returned (.tuple #[(.pointer (some ⟨a.g, 0, none⟩)), (.pointer (some ⟨r.g, 0, none⟩)), .bool true]) ∧ Two w.heap.size w w' a r (madeS (2 + q)) (madeS (2 + q)) := by
  obtain ⟨m, hm⟩ : ∃ m, 2 + q = m := ⟨_, rfl⟩
  have e0 : ((2 : Int) + (q : Int)) = m := by omega
  have hm8 : m < 8 := by omega
  have hm2 : 2 ≤ m := by omega
  have em : (m : Int).toNat = m := by omega
  rw [hm]
  clear hm
  go_enter Try.func13, Try.ntmps13
  go_wp2_with fail
  refine (new_calls m w).mono ?_
  rintro e wa hn
  rcases hn with ⟨hq, _⟩ | ⟨_, _, a, rfl, hl, hc, k1, k2, k3, k4, k5⟩
  · omega
  rw [em] at hl
  have K := Lib.hid (fun (w2 : World) (r : Ra) (hr : RLies w2 r (new m)) (hc2 : Chg (fun _ => False) wa w2) (g1 : wa.heap.size ≤ r.g) (g2 : wa.heap.size ≤ r.o) (g3 : wa.heap.size ≤ r.b) => Two.began hl hc k1 k2 k3 k4 k5 hr hc2 g1 g2 g3)
  clear hl hc k1 k2 k3 k4 k5
  go_wp2_with fail
  refine (refnew_calls m wa).mono ?_
  rintro e wb hn
  rcases hn with ⟨hq, _⟩ | ⟨_, _, r, rfl, hr, hc2, g1, g2, g3⟩
  · omega
  rw [em] at hr
  have H0 := Lib.hid (K.out wb r hr hc2 g1 g2 g3)
  clear hr hc2 g1 g2 g3 K q1 q2 em
  go_wp2_with fail
  go_loopg [11] 10 (fun g i wr => ∃ k : Nat, i = .int .i64 k ∧ g = 10 - k ∧ k + 1 ≤ m ∧ Hid (Two w.heap.size w wr a r (granting (new m) k) (granting (new m) k)))
  case atStart => exact ⟨0, rfl, rfl, by omega, H0.out⟩
  case round =>
    obtain ⟨k, rfl, hg, hk, H5⟩ := hrel
    obtain ⟨wo, rfl⟩ : ∃ wo : World, wo = wr := ⟨_, rfl⟩
    have hg2 := Lib.hid hg
    clear hg
    by_cases hlt : k + 1 < m
    · have t1 : ((k : Int) + 1 < m) := by omega
      have HS : Hid (Hid (∀ W, Two w.heap.size w W a r (granting (new m) (k + 1)) (granting (new m) (k + 1)) → Two w.heap.size w W a r (ArenaPure.grant (granting (new m) k) 1).1 (ArenaPure.grant (granting (new m) k) 1).1)) := fun W h => h
      have e1 : granting (new m) (k + 1) = (ArenaPure.grant (granting (new m) k) 1).1 := rfl
      replace e1 := Lib.hid e1
      generalize granting (new m) k = s at H5 e1
      have dK0 := H5.out.grant 1
      have dK1 := Lib.hid dK0
      clear dK0
      go_wp2_with fail
      refine dK1.out.mono ?_
      rintro e w5 ⟨rfl, hnew, hc⟩
      have H6 := Lib.hid hnew
      clear hnew dK1 hc
      have dK0 := H6.out.rgrant 1
      have dK1 := Lib.hid dK0
      clear dK0
      go_wp2_with fail
      refine dK1.out.mono ?_
      rintro e w6 ⟨rfl, hnew, hc⟩
      have H7 := Lib.hid hnew
      clear hnew dK1 hc
      generalize (ArenaPure.grant s 1).2.1 = x at *
      generalize (ArenaPure.grant s 1).2.2 = y at *
      go_wp2_with fail
      go_roundg (10 - (k + 1))
      case measure => have := hg2.out; omega
      case rel => exact ⟨k + 1, rfl, rfl, by omega, by rw [e1.out]; exact H7.out⟩
    · have t1 : ¬ ((k : Int) + 1 < m) := by omega
      have e1 : k = m - 1 := by omega
      subst e1
      have HF : Hid (Two w.heap.size w wo a r (madeS m) (madeS m)) := H5.out
      clear H5 H0
      go_wp2_with fail
      go_loopg [16] 1 (fun g i wr => i = .int .i64 0 ∧ g = 1 ∧ wr = wo)
      case atStart => exact ⟨rfl, rfl, rfl⟩
      case round =>
        obtain ⟨rfl, hg, rfl⟩ := hrel
        clear hg hg2
        go_wp2_with fail
        go_ret3
        exact ⟨a, r, rfl, HF.out⟩
end Go.Proofs.Ytfhffffdhlofgaa.Arena

/- The walk of chapter 06's Same at two rows of the same numbers. -/
namespace Go.Proofs.Ytfhffffdhlofgaa.Mem
open Go Go.RowKit
set_option linter.unusedVariables false
set_option maxRecDepth 100000
theorem same06_calls {w : World} {l : List Int} {A B : Option Addr} {c d : Nat} (hA : Sl w .i64 A l) (hB : Sl w .i64 B l) (hl : l.length ≤ 1000000) :
    Calls Try.prog 21 #[.slice A l.length c, .slice B l.length d] w fun e w' => e = .returned (.bool true) ∧ Dr w w' := by
  replace hA := Lib.hid hA
  replace hB := Lib.hid hB
  obtain ⟨n, hn⟩ : ∃ n, l.length = n := ⟨_, rfl⟩
  rw [hn] at hl ⊢
  replace hn := Lib.hid hn
  go_enter Try.func21, Try.ntmps21
  go_wp2_with fail
  go_loopg [5] n (fun g i wr => ∃ k : Nat, i = .int .i64 k ∧ g = n - k ∧ k ≤ n ∧ Hid (Dr w wr))
  case atStart => exact ⟨0, rfl, rfl, by omega, Dr.refl w⟩
  case round =>
    obtain ⟨k, rfl, hg, hk, HD⟩ := hrel
    obtain ⟨wo, rfl⟩ : ∃ wo : World, wo = wr := ⟨_, rfl⟩
    replace hg := Lib.hid hg
    by_cases h1 : k < n
    · have h1' : (k : Int) < n := by omega
      have x1 : ∃ ad, A = some ad ∧ wo.cell? (ad.add k) = some (.int .i64 (l.getD k 0)) := by
        obtain ⟨ad, e, hc⟩ := hA.out k (by rw [hn.out]; exact h1)
        obtain ⟨q, rfl⟩ := HD.out
        exact ⟨ad, e, hc⟩
      have x2 : ∃ ad, B = some ad ∧ wo.cell? (ad.add k) = some (.int .i64 (l.getD k 0)) := by
        obtain ⟨ad, e, hc⟩ := hB.out k (by rw [hn.out]; exact h1)
        obtain ⟨q, rfl⟩ := HD.out
        exact ⟨ad, e, hc⟩
      obtain ⟨ad, rfl, c1⟩ := x1
      obtain ⟨bd, rfl, c2⟩ := x2
      generalize l.getD k 0 = x at c1 c2
      go_wp2_with fail
      go_quiet (fail)
      go_wp2_with fail
      go_roundg (n - (k + 1))
      case measure => have := hg.out; omega
      case rel => exact ⟨k + 1, rfl, rfl, by omega, HD.out.step _⟩
    · have h1' : ¬ ((k : Int) < n) := by omega
      go_wp2_with fail
      go_ret
      exact ⟨rfl, HD.out⟩
end Go.Proofs.Ytfhffffdhlofgaa.Mem

/- A queue of the call's own over chunks of 64 bytes, as its functions leave it. -/
namespace Go.Proofs.Ytfhffffdhlofgaa.Links
open Go Go.RowKit Go.Proofs.Ytfhffffdhlofgaa.Mem Go.Proofs.Ytfhffffdhlofgaa.CodecPure Go.Proofs.Ytfhffffdhlofgaa.ArenaPure Go.Proofs.Ytfhffffdhlofgaa.Codec Go.Proofs.Ytfhffffdhlofgaa.Arena Go.Proofs.Ytfhffffdhlofgaa.Item
set_option linter.unusedVariables false
set_option maxRecDepth 100000
variable {B : Nat} {w0 w w' : World} {a : Ar} {h : Qh} {s : St} {L : List Int}
theorem madeS_own : (madeS 4).own = [1, 1, 1, -1] := by decide +kernel
theorem within_chunk {s : St} (ho : s.own = [1, 1, 1, -1]) {x : Int} (hx : x % 64 = 0) : within s x 40 ↔ 0 ≤ x ∧ x < 3072 := by
  unfold within
  rw [ho]
  constructor
  · rintro ⟨h1, h2, h3, h4, h5⟩
    refine ⟨h2, ?_⟩
    have e : x / 1024 < 4 := by simp at h3; omega
    by_cases q : x / 1024 = 3
    · rw [q] at h4; simp at h4
    · omega
  · rintro ⟨h1, h2⟩
    have e : (x / 1024).toNat < 3 := by omega
    refine ⟨by omega, h1, ?_, ?_, by omega⟩
    · simp; omega
    · generalize (x / 1024).toNat = k at e
      match k, e with
      | 0, _ => decide
      | 1, _ => decide
      | 2, _ => decide
theorem not_within_far {s : St} (ho : s.own = [1, 1, 1, -1]) {x : Int} (hx : x < 0 ∨ 4096 ≤ x) : ¬ within s x 40 := by
  unfold within
  rw [ho]
  rintro ⟨h1, h2, h3, h4, h5⟩
  simp at h3
  omega
/-- a place of a chunk, or far off -/
def Chunk (x : Int) : Prop := x % 64 = 0 ∨ x < 0 ∨ 4096 ≤ x
theorem Chunk.within {s : St} (ho : s.own = [1, 1, 1, -1]) {x : Int} (hx : Chunk x) : within s x 40 ↔ (x % 64 = 0 ∧ 0 ≤ x ∧ x < 3072) := by
  by_cases e : x % 64 = 0
  · rw [within_chunk ho e]
    exact ⟨fun h => ⟨e, h⟩, fun h => h.2⟩
  · have := not_within_far ho (hx.resolve_left e)
    exact ⟨fun h => absurd h this, fun h => absurd h.1 e⟩
/-- the queue lies in blocks from B on; its items are chunks; the fields of chunks that are not in it lead nowhere -/
structure QA (B : Nat) (w0 w : World) (a : Ar) (h : Qh) (s : St) (L : List Int) : Prop where
  here : Here B w0 w a s
  q : QLies w a h s L
  low : B ≤ h.q ∧ B ≤ h.m
  mult : ∀ y ∈ L, y % 64 = 0
  own : s.own = [1, 1, 1, -1]
  clean : ∀ x, x % 64 = 0 → within s x 40 → x ∉ L → (place s (x + 4)).1 ≤ 0 ∧ (place s (x + 8)).1 ≤ 0
theorem QA.fresh (k : QA B w0 w a h s L) (hc : Chg (fun _ => False) w w') : QA B w0 w' a h s L :=
  ⟨k.here.fresh hc, k.q.fresh hc, k.low, k.mult, k.own, k.clean⟩
theorem QA.below (k : QA B w0 w a h s L) (hB : B ≤ w0.heap.size) : Below B w0 w := k.here.below hB
theorem chunk_apart {x y : Int} (hx : x % 64 = 0) (hy : y % 64 = 0) (e : x ≠ y) : ArenaPure.Apart x y := by
  unfold ArenaPure.Apart; omega
theorem QA.ap (k : QA B w0 w a h s L) {x : Int} (hx : Chunk x) : within s x 40 → x ∉ L → ∀ y ∈ L, ArenaPure.Apart y x := fun hw hm y hy =>
  chunk_apart (k.mult y hy) ((hx.within k.own).1 hw).1 fun e => hm (e ▸ hy)
theorem place_lay {s t : St} {M : List Int} (h : Lay s t (Flds M)) {x : Int} (h0 : 0 ≤ x) (ha : ∀ y ∈ M, ArenaPure.Apart y x) : place t (x + 4) = place s (x + 4) ∧ place t (x + 8) = place s (x + 8) := by
  refine ⟨h.place _ (by omega) fun i h1 h2 hf => ?_, h.place _ (by omega) fun i h1 h2 hf => ?_⟩ <;> obtain ⟨y, hy, f1, f2⟩ := hf <;> have := ha y hy <;> unfold ArenaPure.Apart at this <;> omega
theorem QA.next (k : QA B w0 w a h s L) {s' : St} {L' : List Int} (hq : QLies w' a h s' L') (hc : Chg (Q2 a h) w w') (hm : ∀ y ∈ L', y % 64 = 0) (ho : s'.own = s.own)
    (hcl : ∀ x, x % 64 = 0 → within s x 40 → x ∉ L' → (place s' (x + 4)).1 ≤ 0 ∧ (place s' (x + 8)).1 ≤ 0) : QA B w0 w' a h s' L' :=
  ⟨⟨hq.lies, k.here.chg.trans (hc.mono fun b _ hb => by
    rcases hb with hb | rfl | rfl
    · exact k.here.low.2.2 b hb
    · exact k.low.1
    · exact k.low.2), k.here.low⟩, hq, k.low, hm, by rw [ho, k.own], fun x h1 h2 => hcl x h1 ((within_own ho x 40).1 h2)⟩
/-- what an act answers, and how it leaves the queue -/
def QNow (B : Nat) (w0 w : World) (a : Ar) (h : Qh) (r : St × List Int × Int) (e : Ending) (w' : World) : Prop :=
  e = .returned (.int .i64 r.2.2) ∧ QA B w0 w' a h r.1 r.2.1 ∧ Chg (Q2 a h) w w'
theorem QA.push (k : QA B w0 w a h s L) {x : Int} (hx : Chunk x) (hi : I64 x) : Calls Try.prog 16 #[(.pointer (some ⟨h.q, 0, none⟩)), (.int .i64 x)] w (QNow B w0 w a h (pushed s L x)) :=
  (push_calls k.q x hi (k.ap hx)).mono fun e w1 ⟨h1, h2, h3⟩ => by
    refine ⟨h1, ?_, h3⟩
    unfold pushed at h2 ⊢
    by_cases hw : within s x 40
    · rw [if_pos hw] at h2 ⊢
      by_cases hm : x ∈ L
      · rw [if_pos hm] at h2 ⊢
        exact k.next h2 h3 k.mult rfl k.clean
      · rw [if_neg hm] at h2 ⊢
        have P := put_seg (A := []) (C := L) k.q.li hw (k.ap hx hw hm)
        have ex := ((hx.within k.own).1 hw).1
        refine k.next h2 h3 (fun y hy => ?_) P.2.own fun z h4 h5 h6 => ?_
        · rcases List.mem_cons.1 hy with rfl | hy
          · exact ex
          · exact k.mult y hy
        · simp only [List.mem_cons, not_or] at h6
          have z0 := ((within_chunk k.own h4).1 h5).1
          have E := place_lay P.2 z0 fun y hy => chunk_apart (by
            rcases List.mem_cons.1 hy with rfl | hy
            · exact ex
            · exact k.mult y hy) h4 fun e => by
              subst e
              rcases List.mem_cons.1 hy with e | hy
              · exact h6.1 e
              · exact h6.2 hy
          have c := k.clean z h4 h5 h6.2
          show (place (putS s (-1) x (L.headD (-1))) (z + 4)).1 ≤ 0 ∧ _
          exact ⟨by rw [show place (putS s (-1) x (L.headD (-1))) (z + 4) = _ from E.1]; exact c.1, by rw [show place (putS s (-1) x (L.headD (-1))) (z + 8) = _ from E.2]; exact c.2⟩
    · rw [if_neg hw] at h2 ⊢
      exact k.next h2 h3 k.mult rfl k.clean
theorem QA.insert (k : QA B w0 w a h s L) {b x : Int} (hx : Chunk x) (hb : I64 b) (hi : I64 x) : Calls Try.prog 20 #[(.pointer (some ⟨h.q, 0, none⟩)), (.int .i64 b), (.int .i64 x)] w (QNow B w0 w a h (inserted s L b x)) :=
  (insert_calls k.q b x hb hi (k.ap hx)).mono fun e w1 ⟨h1, h2, h3⟩ => by
    refine ⟨h1, ?_, h3⟩
    unfold inserted at h2 ⊢
    by_cases hb : b ∈ L
    · rw [if_pos hb] at h2 ⊢
      unfold insTail at h2 ⊢
      by_cases hw : within s x 40
      · rw [if_pos hw] at h2 ⊢
        by_cases hm : x ∈ L
        · rw [if_pos hm] at h2 ⊢
          exact k.next h2 h3 k.mult rfl k.clean
        · rw [if_neg hm] at h2 ⊢
          obtain ⟨A, C, hL, hA, h4, h5, h6, h7⟩ := split_at b L hb
          have ex := ((hx.within k.own).1 hw).1
          have e0 : L = (A ++ [b]) ++ C := by rw [hL]; simp
          have kli := k.q.li
          rw [e0] at kli
          have P := put_seg kli hw (by rw [← e0]; exact k.ap hx hw hm)
          have el : (A ++ [b]).getLastD (-1) = b := by simp
          rw [el, ← h5] at P
          have hmem : ∀ y, y ∈ A ++ [b] ++ x :: C → y = x ∨ y ∈ L := fun y hy => by
            rw [e0]
            simp at hy ⊢
            rcases hy with hy | rfl | rfl | hy
            · exact .inr (.inl hy)
            · exact .inr (.inr (.inl rfl))
            · exact .inl rfl
            · exact .inr (.inr (.inr hy))
          have hmem2 : ∀ y, y ∈ A ++ [b] ++ x :: C ↔ y ∈ ins b x L := fun y => by rw [h4]; simp
          have hmod : ∀ y ∈ A ++ [b] ++ x :: C, y % 64 = 0 := fun y hy => by
            rcases hmem y hy with rfl | hy
            · exact ex
            · exact k.mult y hy
          refine k.next h2 h3 (fun y hy => hmod y ((hmem2 y).2 hy)) P.2.own fun z h8 h9 h10 => ?_
          have z0 := ((within_chunk k.own h8).1 h9).1
          have E := place_lay P.2 z0 fun y hy => chunk_apart (hmod y hy) h8 fun e => h10 (e ▸ (hmem2 y).1 hy)
          have c := k.clean z h8 h9 fun hz => h10 ((hmem2 z).1 (by rw [e0] at hz; simp at hz ⊢; rcases hz with hz | rfl | hz; exact .inl hz; exact .inr (.inl rfl); exact .inr (.inr (.inr hz))))
          exact ⟨by rw [E.1]; exact c.1, by rw [E.2]; exact c.2⟩
      · rw [if_neg hw] at h2 ⊢
        exact k.next h2 h3 k.mult rfl k.clean
    · rw [if_neg hb] at h2 ⊢
      exact k.next h2 h3 k.mult rfl k.clean
theorem QA.remove (k : QA B w0 w a h s L) (x : Int) : Calls Try.prog 15 #[(.pointer (some ⟨h.q, 0, none⟩)), (.int .i64 x)] w (QNow B w0 w a h (removed s L x)) :=
  (remove_calls k.q x).mono fun e w1 ⟨h1, h2, h3⟩ => by
    refine ⟨h1, ?_, h3⟩
    unfold removed at h2 ⊢
    by_cases hm : x ∈ L
    · rw [if_pos hm] at h2 ⊢
      obtain ⟨A, C, hL, hA, h4, h5, h6, h7⟩ := split_at x L hm
      have kli := k.q.li
      rw [hL] at kli
      obtain ⟨P1, P2, P3, P4⟩ := del_seg kli
      rw [← h5, ← h6] at P1 P2 P3 P4
      have mA : ∀ y, y ∈ A ++ C → y ∈ L := fun y hy => by rw [hL]; simp at hy ⊢; rcases hy with hy | hy; exact .inl hy; exact .inr (.inr hy)
      refine k.next h2 h3 (fun y hy => k.mult y (List.mem_of_mem_erase hy)) P2.own fun z h8 h9 h10 => ?_
      have z0 := ((within_chunk k.own h8).1 h9).1
      by_cases ez : z = x
      · subst ez
        exact ⟨by rw [P3]; decide, by rw [P4]; decide⟩
      · have hz : z ∉ L := fun hz => h10 (by rw [h7]; rw [hL] at hz; simp at hz ⊢; rcases hz with hz | hz | hz; exact .inl hz; exact absurd hz ez; exact .inr hz)
        have E := place_lay P2 z0 fun y hy => chunk_apart (k.mult y (by rw [hL]; exact hy)) h8 fun e => hz (by rw [← e, hL]; exact hy)
        have c := k.clean z h8 h9 hz
        exact ⟨by rw [E.1]; exact c.1, by rw [E.2]; exact c.2⟩
    · rw [if_neg hm] at h2 ⊢
      exact k.next h2 h3 k.mult rfl k.clean
end Go.Proofs.Ytfhffffdhlofgaa.Links

/- What a queue's acts answer, over lists alone; and the walk of chapter 09's works. -/
namespace Go.Proofs.Ytfhffffdhlofgaa.Links
open Go Go.RowKit Go.Proofs.Ytfhffffdhlofgaa.Mem Go.Proofs.Ytfhffffdhlofgaa.CodecPure Go.Proofs.Ytfhffffdhlofgaa.ArenaPure Go.Proofs.Ytfhffffdhlofgaa.Codec Go.Proofs.Ytfhffffdhlofgaa.Arena Go.Proofs.Ytfhffffdhlofgaa.Item
set_option linter.unusedVariables false
set_option maxRecDepth 100000
variable {B : Nat} {w0 w w' : World} {a : Ar} {h : Qh} {s : St} {L : List Int}
instance (x : Int) : Decidable (Chunk x) := by unfold Chunk; infer_instance
instance (x : Int) : Decidable (I64 x) := by unfold I64; infer_instance
def pushL (L : List Int) (x : Int) : List Int × Int := if x % 64 = 0 ∧ 0 ≤ x ∧ x < 3072 then if x ∈ L then (L, 4) else (x :: L, 0) else (L, 1)
def insL (L : List Int) (b x : Int) : List Int × Int := if b ∈ L then if x % 64 = 0 ∧ 0 ≤ x ∧ x < 3072 then if x ∈ L then (L, 4) else (ins b x L, 0) else (L, 1) else (L, 3)
def remL (L : List Int) (x : Int) : List Int × Int := if x ∈ L then (L.erase x, 0) else (L, 3)
theorem QA.pushed (k : QA B w0 w a h s L) {x : Int} (hx : Chunk x) : (Links.pushed s L x).2 = pushL L x := by
  unfold Links.pushed pushL
  have e := hx.within k.own
  by_cases hw : within s x 40
  · rw [if_pos hw, if_pos (e.1 hw)]; split <;> rfl
  · rw [if_neg hw, if_neg fun h => hw (e.2 h)]
theorem QA.inserted (k : QA B w0 w a h s L) {b x : Int} (hx : Chunk x) : (Links.inserted s L b x).2 = insL L b x := by
  unfold Links.inserted insL insTail
  have e := hx.within k.own
  by_cases hb : b ∈ L
  · rw [if_pos hb, if_pos hb]
    by_cases hw : within s x 40
    · rw [if_pos hw, if_pos (e.1 hw)]; split <;> rfl
    · rw [if_neg hw, if_neg fun h => hw (e.2 h)]
  · rw [if_neg hb, if_neg hb]
theorem removed_L (s : St) (L : List Int) (x : Int) : (removed s L x).2 = remL L x := by
  unfold removed remL
  split <;> rfl
/-- an act's answer, and the queue behind it -/
def QEnd (B : Nat) (w0 w : World) (a : Ar) (h : Qh) (L : List Int) (err : Int) (e : Ending) (w' : World) : Prop :=
  e = .returned (.int .i64 err) ∧ ∃ s, QA B w0 w' a h s L ∧ Chg (Q2 a h) w w'
theorem QA.pushE (k : QA B w0 w a h s L) {x err : Int} {L' : List Int} (hp : pushL L x = (L', err)) (hx : Chunk x) (hi : I64 x) : Calls Try.prog 16 #[(.pointer (some ⟨h.q, 0, none⟩)), (.int .i64 x)] w (QEnd B w0 w a h L' err) :=
  (k.push hx hi).mono fun e w1 ⟨h1, h2, h3⟩ => by
    have E := k.pushed hx
    rw [hp] at E
    rw [E] at h1 h2
    exact ⟨h1, _, h2, h3⟩
theorem QA.insertE (k : QA B w0 w a h s L) {b x err : Int} {L' : List Int} (hp : insL L b x = (L', err)) (hx : Chunk x) (hb : I64 b) (hi : I64 x) : Calls Try.prog 20 #[(.pointer (some ⟨h.q, 0, none⟩)), (.int .i64 b), (.int .i64 x)] w (QEnd B w0 w a h L' err) :=
  (k.insert hx hb hi).mono fun e w1 ⟨h1, h2, h3⟩ => by
    have E := k.inserted (b := b) hx
    rw [hp] at E
    rw [E] at h1 h2
    exact ⟨h1, _, h2, h3⟩
theorem QA.removeE (k : QA B w0 w a h s L) {x err : Int} {L' : List Int} (hp : remL L x = (L', err)) : Calls Try.prog 15 #[(.pointer (some ⟨h.q, 0, none⟩)), (.int .i64 x)] w (QEnd B w0 w a h L' err) :=
  (k.remove x).mono fun e w1 ⟨h1, h2, h3⟩ => by
    have E := removed_L s L x
    rw [hp] at E
    rw [E] at h1 h2
    exact ⟨h1, _, h2, h3⟩
theorem QA.tailE (k : QA B w0 w a h s L) {t : Int} {is : Bool} (hp : tail L = (t, is)) : Calls Try.prog 17 #[(.pointer (some ⟨h.q, 0, none⟩))] w fun e w' => e = .returned (.tuple #[.int .i64 t, .bool is]) ∧ w = w' := by
  have := tail_calls k.q
  rw [hp] at this
  exact this
theorem QA.listE (k : QA B w0 w a h s L) {n : Nat} (hn : L.length = n) (hlen : n ≤ 1000000) : Calls Try.prog 19 #[(.pointer (some ⟨h.q, 0, none⟩))] w fun e w' => ∃ A c, e = .returned (.slice A n c) ∧ Mem.Own w' w.heap.size 3 .i64 (.slice A n c) L ∧ QA B w0 w' a h s L ∧ Chg (fun _ => False) w w' :=
  (list_calls k.q (by omega)).mono fun e w1 ⟨v, h1, h2, h3⟩ => by
    obtain ⟨A, c, rfl⟩ := h2.form
    rw [hn] at h1 h2
    exact ⟨A, c, h1, h2, k.fresh h3, h3⟩
theorem QA.q2_lt (k : QA B w0 w a h s L) (x : Nat) (hx : Q2 a h x) : x < w.heap.size := by
  rcases hx with hx | rfl | rfl
  · exact k.here.pb_lt x hx
  · exact blk_lt k.q.head
  · exact k.q.set.lt
theorem QA.off (k : QA B w0 w a h s L) {W : World} {A : Option Addr} {n c : Nat} {l : List Int} {e : TypeId} (ho : Mem.Own W w.heap.size e .i64 (.slice A n c) l) : ∀ ad, A = some ad → ¬ Q2 a h ad.block := fun ad e hq => by
  have := (ho.base ad e).1
  have := k.q2_lt _ hq
  omega
theorem made_clean : ∀ k, k < 48 → (place (madeS 4) (64 * (k : Nat) + 4)).1 ≤ 0 ∧ (place (madeS 4) (64 * (k : Nat) + 8)).1 ≤ 0 := by decide +kernel
theorem QA.start {w1 : World} {r : Ra} (T : Two w.heap.size w w1 a r (madeS 4) (madeS 4)) : Calls Try.prog 14 #[(.pointer (some ⟨a.g, 0, none⟩))] w1 fun e w' => ∃ h : Qh, e = .returned (.pointer (some ⟨h.q, 0, none⟩)) ∧ QA w.heap.size w w' a h (madeS 4) [] ∧ Chg (fun _ => False) w1 w' ∧ w1.heap.size ≤ h.q ∧ w1.heap.size ≤ h.m :=
  (qnew_calls T.here.lies).mono fun e w2 ⟨h, h1, h2, h3, h4, h5⟩ => by
    have z := T.here.chg.size
    refine ⟨h, h1, ⟨T.here.fresh h3, h2, ⟨by omega, by omega⟩, fun y hy => by simp at hy, madeS_own, fun x hx hw _ => ?_⟩, h3, h4, h5⟩
    obtain ⟨x0, x1⟩ := (within_chunk madeS_own hx).1 hw
    obtain ⟨k, rfl⟩ : ∃ k : Nat, x = 64 * (k : Int) := ⟨(x / 64).toNat, by omega⟩
    exact made_clean k (by omega)
theorem small2 : (IntKind.u64.wrap 2).tmod 6 = ((2 : Nat) : Int) ∧ IntKind.u64.wrap 2 % 6 = ((2 : Nat) : Int) := by decide
set_option maxHeartbeats 4000000 in
theorem works_calls (w : World) : Calls Try.prog 12 #[] w fun e w' => e = .returned (.bool true) ∧ Chg (fun _ => False) w w' := by
  go_enter Try.func12, Try.ntmps12
  go_wp2_with fail
  refine (made_calls 2 w 2 (by decide) small2.1 small2.2).mono ?_
  rintro e w1 ⟨a, r, rfl, T⟩
  replace T := Lib.hid T
  go_wp2_with fail
  refine (QA.start T.out).mono ?_
  rintro e w2 ⟨h, rfl, H0, -, -, -⟩
  replace H0 := Lib.hid H0
  clear T
  have dK0 := H0.out.pushE (x := 0) (L' := [0]) (err := 0) (by decide) (by decide) (by decide)
  have dK1 := Lib.hid dK0
  clear dK0
  go_wp2_with fail
  refine dK1.out.mono ?_
  rintro e w3 ⟨rfl, s1, hnew, -⟩
  have H1 := Lib.hid hnew
  clear hnew dK1
  have dK0 := H1.out.pushE (x := 64) (L' := [64, 0]) (err := 0) (by decide) (by decide) (by decide)
  have dK1 := Lib.hid dK0
  clear dK0
  go_wp2_with fail
  refine dK1.out.mono ?_
  rintro e w4 ⟨rfl, s2, hnew, -⟩
  have H2 := Lib.hid hnew
  clear hnew dK1
  have dK0 := H2.out.pushE (x := 128) (L' := [128, 64, 0]) (err := 0) (by decide) (by decide) (by decide)
  have dK1 := Lib.hid dK0
  clear dK0
  go_wp2_with fail
  refine dK1.out.mono ?_
  rintro e w5 ⟨rfl, s3, hnew, -⟩
  have H3 := Lib.hid hnew
  clear hnew dK1
  have dK0 := H3.out.pushE (x := 64) (L' := [128, 64, 0]) (err := 4) (by decide) (by decide) (by decide)
  have dK1 := Lib.hid dK0
  clear dK0
  go_wp2_with fail
  refine dK1.out.mono ?_
  rintro e w6 ⟨rfl, s4, hnew, -⟩
  have H4 := Lib.hid hnew
  clear hnew dK1
  go_wp2_with fail
  refine (H4.out.listE (n := 3) rfl (by decide)).mono ?_
  rintro e w7 ⟨A, c, rfl, O7, H5, -⟩
  replace H5 := Lib.hid H5
  replace O7 := Lib.hid O7
  have NB := Lib.hid (H4.out.off O7.out)
  have SA := Lib.hid O7.out.sl
  clear O7
  go_wp2_with fail
  refine (H5.out.tailE (t := 0) (is := true) rfl).mono ?_
  rintro e w8 ⟨rfl, rfl⟩
  have dK0 := H5.out.removeE (x := 64) (L' := [128, 0]) (err := 0) (by decide)
  have dK1 := Lib.hid dK0
  clear dK0
  go_wp2_with fail
  refine dK1.out.mono ?_
  rintro e w8 ⟨rfl, s6, hnew, hc⟩
  have H6 := Lib.hid hnew
  clear hnew dK1
  have SB := Lib.hid (SA.out.chg hc NB.out)
  clear hc
  have dK0 := H6.out.insertE (b := 128) (x := 192) (L' := [128, 192, 0]) (err := 0) (by decide) (by decide) (by decide) (by decide)
  have dK1 := Lib.hid dK0
  clear dK0
  go_wp2_with fail
  refine dK1.out.mono ?_
  rintro e w9 ⟨rfl, s7, hnew, hc⟩
  have H7 := Lib.hid hnew
  clear hnew dK1
  have SC := Lib.hid (SB.out.chg hc NB.out)
  clear hc SA SB
  have hs9 := sl_lit w9 .i64 [128, 64, 0] 3 (0, 0)
  have C9 := same06_calls (c := c) (d := 3) (SC.out.chg (Chg.alloc (fun _ => False) w9 (.cells #[.int .i64 128, .int .i64 64, .int .i64 0] 3)) (fun _ _ => id)) hs9 (by decide)
  replace C9 := Lib.hid C9
  clear hs9
  go_wp2_with fail
  refine C9.out.mono ?_
  rintro e w10 ⟨rfl, hd⟩
  have H8 := Lib.hid (H7.out.fresh ((Chg.alloc (fun _ => False) w9 _).trans (hd.chg _)))
  clear hd C9 SC
  go_wp2_with fail
  refine (H8.out.listE (n := 3) rfl (by decide)).mono ?_
  rintro e w11 ⟨A2, c2, rfl, O11, H9, -⟩
  replace H9 := Lib.hid H9
  have C11 := same06_calls (c := c2) (d := 3) (O11.sl.chg (Chg.alloc (fun _ => False) w11 (.cells #[.int .i64 128, .int .i64 192, .int .i64 0] 3)) (fun _ _ => id)) (sl_lit w11 .i64 [128, 192, 0] 3 (0, 0)) (by decide)
  replace C11 := Lib.hid C11
  clear O11
  go_wp2_with fail
  refine C11.out.mono ?_
  rintro e w12 ⟨rfl, hd⟩
  have H10 := Lib.hid (H9.out.fresh ((Chg.alloc (fun _ => False) w11 _).trans (hd.chg _)))
  clear hd C11
  have dK0 := H10.out.removeE (x := 64) (L' := [128, 192, 0]) (err := 3) (by decide)
  have dK1 := Lib.hid dK0
  clear dK0
  go_wp2_with fail
  refine dK1.out.mono ?_
  rintro e w13 ⟨rfl, s11, hnew, -⟩
  have H11 := Lib.hid hnew
  clear hnew dK1
  have dK0 := H11.out.pushE (x := -1) (L' := [128, 192, 0]) (err := 1) (by decide) (by decide) (by decide)
  have dK1 := Lib.hid dK0
  clear dK0
  go_wp2_with fail
  refine dK1.out.mono ?_
  rintro e w14 ⟨rfl, s12, hnew, -⟩
  have H12 := Lib.hid hnew
  clear hnew dK1
  go_wp2_with fail
  go_ret
  exact ⟨rfl, H12.out.here.chg.mono fun _ hl hb => by omega⟩
end Go.Proofs.Ytfhffffdhlofgaa.Links

/- The walk of the law LinksWalk: it returns true at any acts. -/
namespace Go.Proofs.Ytfhffffdhlofgaa.Links
open Go Go.RowKit Go.Proofs.Ytfhffffdhlofgaa.Mem Go.Proofs.Ytfhffffdhlofgaa.CodecPure Go.Proofs.Ytfhffffdhlofgaa.ArenaPure Go.Proofs.Ytfhffffdhlofgaa.Codec Go.Proofs.Ytfhffffdhlofgaa.Arena Go.Proofs.Ytfhffffdhlofgaa.Item
set_option linter.unusedVariables false
set_option maxRecDepth 100000
variable {B : Nat} {w0 w w' : World} {a : Ar} {h : Qh} {s : St} {L : List Int}
theorem prev_at : ∀ (L : List Int) (p : Int) (i : Nat), L.Nodup → i < L.length → prevL (L.getD i 0) p L = if i = 0 then p else L.getD (i - 1) 0 := by
  intro L
  induction L with
  | nil => intro p i _ hi; simp at hi
  | cons y ys ih =>
    intro p i hn hi
    cases i with
    | zero => simp [prevL]
    | succ i =>
      have hy := (List.nodup_cons.1 hn)
      have e : (y :: ys).getD (i + 1) 0 = ys.getD i 0 := rfl
      have hi' : i < ys.length := by simpa using hi
      have hmem : ys.getD i 0 ∈ ys := by rw [List.getD_eq_getElem?_getD, List.getElem?_eq_getElem hi']; exact List.getElem_mem hi'
      have ne : y ≠ ys.getD i 0 := fun q => hy.1 (q ▸ hmem)
      rw [e]
      unfold prevL
      rw [if_neg ne, ih y i hy.2 hi']
      cases i <;> simp
theorem mem_at {L : List Int} {i : Nat} (hi : i < L.length) : L.getD i 0 ∈ L := by rw [List.getD_eq_getElem?_getD, List.getElem?_eq_getElem hi]; exact List.getElem_mem hi
theorem before_at {L : List Int} (hn : L.Nodup) {j : Nat} (hj : j < L.length) : before L (L.getD j 0) = if 0 < j then (L.getD (j - 1) 0, true) else (0, false) := by
  unfold before
  have hm := mem_at hj
  cases L with
  | nil => simp at hj
  | cons y ys =>
    cases j with
    | zero => rw [if_neg (fun q => q.2 rfl), if_neg (by omega)]
    | succ j =>
      have hy := (List.nodup_cons.1 hn)
      have e : (y :: ys).getD (j + 1) 0 = ys.getD j 0 := rfl
      have hj' : j < ys.length := by simpa using hj
      rw [if_pos ⟨hm, fun q => hy.1 (by
        have : ys.getD j 0 = y := q
        rw [← this]; exact mem_at hj')⟩, if_pos (by omega), prev_at _ _ _ hn hj, if_neg (by omega)]
theorem tail_at (L : List Int) : tail L = if 0 < L.length then (L.getD (L.length - 1) 0, true) else (0, false) := by
  unfold tail
  cases L with
  | nil => rfl
  | cons y ys =>
    rw [if_neg (by simp), if_pos (by simp)]
    congr 1
    rw [List.getLastD_eq_getLast?, List.getLast?_eq_getElem?, List.getD_eq_getElem?_getD, List.getElem?_eq_getElem (by simp)]
    simp
theorem QA.nodup (k : QA B w0 w a h s L) : L.Nodup := k.q.li.nodup
theorem QA.beforeE (k : QA B w0 w a h s L) {x z : Int} {b : Bool} (hx : before L x = (z, b)) : Calls Try.prog 24 #[(.pointer (some ⟨h.q, 0, none⟩)), (.int .i64 x)] w (fun e w' => e = .returned (.tuple #[.int .i64 z, .bool b]) ∧ QA B w0 w' a h s L ∧ Chg (fun _ => False) w w') :=
  (before_calls k.q x).mono fun e w1 ⟨h1, h2⟩ => by
    rw [hx] at h1
    exact ⟨h1, k.fresh h2, h2⟩
theorem pushL_len (L : List Int) (x : Int) : (pushL L x).1.length ≤ L.length + 1 := by
  unfold pushL
  split
  · split
    · exact Nat.le_succ _
    · exact Nat.le_refl _
  · exact Nat.le_succ _
theorem remL_len (L : List Int) (x : Int) : (remL L x).1.length ≤ L.length + 1 := by
  unfold remL
  split
  · exact Nat.le_succ_of_le (List.length_erase_le)
  · exact Nat.le_succ _
theorem chunk_ok {p : Nat} (h : p < 40) : Chunk (64 * (p : Int)) ∧ I64 (64 * (p : Int)) := by unfold Chunk I64; omega
set_option maxHeartbeats 400000 in
theorem walk_walk (A : Option Addr) (c : Nat) (l : List (List Int)) (w : World) (hl : SRow w [.i64, .i64, .i64] A c l) :
    Calls Try.prog 6 #[.slice A l.length c] w fun e w' => e = .returned (.bool true) ∧ Below w.heap.size w w' := by
  have hlm : l.length ≤ 9223372036854775807 := Nat.le_trans hl.cap hl.most
  replace hl := Lib.hid hl
  obtain ⟨n, hn⟩ : ∃ n, l.length = n := ⟨_, rfl⟩
  rw [hn] at hlm ⊢
  replace hn := Lib.hid hn
  go_enter Try.func6, Try.ntmps6
  go_wp2_with fail
  refine (works_calls w).mono ?_
  rintro e wa ⟨rfl, hc⟩
  have CA := Lib.hid hc
  clear hc
  go_wp2_with fail
  refine (made_calls 2 wa 2 (by decide) small2.1 small2.2).mono ?_
  rintro e w1 ⟨a, r, rfl, T⟩
  replace T := Lib.hid T
  go_wp2_with fail
  refine (QA.start T.out).mono ?_
  rintro e w2 ⟨h, rfl, H0, -, -, -⟩
  replace H0 := Lib.hid H0
  clear T
  go_wp2_with fail
  go_loopg [7] 60 (fun g i wr => ∃ (k : Nat) (s : St) (L : List Int), i = .int .i64 k ∧ g = 60 - k ∧ k ≤ 60 ∧ k ≤ n ∧ L.length ≤ k ∧ Hid (QA wa.heap.size wa wr a h s L))
  case atStart => exact ⟨0, _, [], rfl, rfl, by omega, by omega, by simp, H0.out⟩
  case round =>
    obtain ⟨k, s, L, rfl, hg, hk, hkn, hL, H1⟩ := hrel
    obtain ⟨wo, rfl⟩ : ∃ wo : World, wo = wr := ⟨_, rfl⟩
    replace hg := Lib.hid hg
    replace hL := Lib.hid hL
    by_cases hlt : k < n ∧ k < 60
    · obtain ⟨h1, h2⟩ := hlt
      have h1' : (k : Int) < n := by omega
      have h2' : (k : Int) < 60 := by omega
      have CC : Chg (fun b => w.heap.size ≤ b) w wo := (CA.out.mono fun _ _ h => h.elim).trans (H1.out.here.chg.mono fun b _ hb => Nat.le_trans CA.out.size hb)
      have SR := hl.out.chg CC (Nat.le_refl _)
      obtain ⟨ad, rfl, d0, d1⟩ := SR.fields k (by rw [hn.out]; exact h1) (by decide)
      have f0 := d0 .i64 rfl
      have f1 := d1 0 .i64 rfl
      simp only [List.length_cons, List.length_nil, Nat.reduceAdd, Nat.zero_add] at f0 f1
      clear d0 d1 SR CC
      generalize (l.getD k []).getD 0 0 = kind at f0
      generalize (l.getD k []).getD 1 0 = x at f1
      obtain ⟨p, hp, p1, p2⟩ := small x 40 (by decide)
      replace p1 : (IntKind.u64.wrap x).tmod 40 = p := p1
      clear p2
      have ck := Lib.hid (chunk_ok hp)
      clear H0 CA hl
      by_cases e0 : kind = 1
      · have t0 : (kind == 1) = true := by rw [e0]; rfl
        clear e0
        have P := Lib.hid (H1.out.removeE (x := 64 * (p : Int)) (L' := (remL L (64 * (p : Int))).1) (err := (remL L (64 * (p : Int))).2) rfl)
        have z := remL_len L (64 * (p : Int))
        generalize (remL L (64 * (p : Int))).1 = L' at P z
        replace z := Lib.hid z
        generalize (remL L (64 * (p : Int))).2 = err at P
        go_wp2_with fail
        refine P.out.mono ?_
        rintro e w5 ⟨rfl, s', hnew, -⟩
        replace hnew := Lib.hid hnew
        clear P
        go_wp2_with fail
        go_roundg (60 - (k + 1))
        case measure => have := hg.out; omega
        case rel => exact ⟨k + 1, s', L', rfl, rfl, by omega, by omega, by have := hL.out; have := z.out; omega, hnew.out⟩
      · have t0 : (kind == 1) = false := by rw [beq_eq_false_iff_ne]; exact e0
        clear e0
        have P := Lib.hid (H1.out.pushE (x := 64 * (p : Int)) (L' := (pushL L (64 * (p : Int))).1) (err := (pushL L (64 * (p : Int))).2) rfl ck.out.1 ck.out.2)
        have z := pushL_len L (64 * (p : Int))
        generalize (pushL L (64 * (p : Int))).1 = L' at P z
        replace z := Lib.hid z
        generalize (pushL L (64 * (p : Int))).2 = err at P
        go_wp2_with fail
        refine P.out.mono ?_
        rintro e w5 ⟨rfl, s', hnew, -⟩
        replace hnew := Lib.hid hnew
        clear P
        go_wp2_with fail
        go_roundg (60 - (k + 1))
        case measure => have := hg.out; omega
        case rel => exact ⟨k + 1, s', L', rfl, rfl, by omega, by omega, by have := hL.out; have := z.out; omega, hnew.out⟩
    · have hend : ((n : Int) ≤ k) ∨ ((k : Int) < n ∧ ¬ (k : Int) < 60) := by omega
      clear hg H0 hlt
      obtain ⟨m, hm⟩ : ∃ m, L.length = m := ⟨_, rfl⟩
      have hm60 : m ≤ 60 := by have := hL.out; omega
      clear hL hk hkn
      have LC := Lib.hid (H1.out.listE hm (by omega))
      obtain ⟨x, is, hx⟩ : ∃ x is, tail L = (x, is) := ⟨_, _, rfl⟩
      have TC := Lib.hid (fun (W : World) (hq : QA wa.heap.size wa W a h s L) => hq.tailE hx)
      have NOD := Lib.hid H1.out.nodup
      have te := tail_at L
      rw [hm, hx] at te
      have TE := Lib.hid te
      replace hm := Lib.hid hm
      clear te hx
      have NB := Lib.hid (fun W A n c l (o : Mem.Own W wo.heap.size 3 .i64 (.slice A n c) l) => H1.out.off o)
      rcases hend with he | ⟨he, he2⟩ <;>
      (go_wp2_with fail
       refine LC.out.mono ?_
       rintro e w5 ⟨A2, c2, rfl, O5, H2, -⟩
       have H2' := Lib.hid H2
       have S5 := Lib.hid O5.sl
       clear H2 O5 LC NB
       go_wp2_with fail
       refine (TC.out w5 H2'.out).mono ?_
       rintro e w6 ⟨rfl, rfl⟩
       go_wp2_with fail
       go_loopg [10, 11, 12] m (fun g x ok i wr => ∃ (j : Nat) (z : Int) (b : Bool), i = .int .i64 ((j : Int) - 1) ∧ g = j ∧ j ≤ m ∧ x = .int .i64 z ∧ ok = .bool b ∧ Hid ((z, b) = if 0 < j then (L.getD (j - 1) 0, true) else (0, false)) ∧ Hid (QA wa.heap.size wa wr a h s L) ∧ Hid (Sl wr .i64 A2 L))
       case atStart => exact ⟨m, x, is, rfl, rfl, by omega, rfl, rfl, TE.out, H2'.out, S5.out⟩
       case round =>
         obtain ⟨j, z, b, rfl, hg, hj, rfl, rfl, HB, H3, HS⟩ := hrel
         obtain ⟨wo2, rfl⟩ : ∃ wo : World, wo = wr := ⟨_, rfl⟩
         replace hg := Lib.hid hg
         cases j with
         | zero =>
           have e1 : (((0 : Nat) : Int) - 1) = -1 := rfl
           have e2 := HB.out
           rw [if_neg (by decide)] at e2
           injection e2 with e3 e4
           subst e3 e4
           rw [e1]
           have F : Hid (Below w.heap.size w wo2) := ((CA.out.mono fun _ _ h => h.elim).trans (H3.out.here.chg.mono fun b _ hb => Nat.le_trans CA.out.size hb)).below (Nat.le_refl _) fun _ h => h
           clear e1 HB TE hj
           go_wp2_with fail
           go_ret
           exact ⟨rfl, F.out⟩
         | succ j =>
           have e1 : (((j + 1 : Nat) : Int) - 1) = j := by omega
           have e2 := HB.out
           rw [if_pos (by omega)] at e2
           injection e2 with e3 e4
           replace e3 : z = L.getD j 0 := e3
           subst e4
           obtain ⟨ad2, rfl, c2⟩ := HS.out j (by rw [hm.out]; omega)
           rw [← e3] at c2
           obtain ⟨y, b2, hy⟩ : ∃ y b2, before L z = (y, b2) := ⟨_, _, rfl⟩
           have P := Lib.hid (H3.out.beforeE hy)
           have by0 := before_at NOD.out (j := j) (by rw [hm.out]; omega)
           rw [← e3, hy] at by0
           have BY := Lib.hid by0
           rw [e1]
           have hj2 : (0 : Int) ≤ j := by omega
           clear e1 HB TE e3 hy by0
           go_wp2_with fail
           refine P.out.mono ?_
           rintro e w7 ⟨rfl, hnew, hc⟩
           have H4 := Lib.hid hnew
           have HS2 := Lib.hid (HS.out.chg hc fun _ _ => id)
           clear hnew hc P c2
           go_wp2_with fail
           go_roundg j
           case measure => have := hg.out; omega
           case rel => exact ⟨j, y, b2, rfl, rfl, by omega, rfl, rfl, BY.out, H4.out, HS2.out⟩)
end Go.Proofs.Ytfhffffdhlofgaa.Links

