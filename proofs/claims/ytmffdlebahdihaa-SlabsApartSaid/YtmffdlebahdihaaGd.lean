import Derived.Test.YtmffdlebahdihaaGb
import Derived.Laws.Rows
import Derived.Test.YtmffdlebahdihaaGa
import Derived.MapKept
import Derived.Test.YtmffdlebahdihaaGc
import Derived.Deep.CutBlock
import Derived.BigQuiet
import Derived.Deep.LoopGhost
import Derived.Deep.QuietTactic
/- Chapters 08 and 09 in plain words: fields of a header; queues of items that are linked by their headers' fields. No program in sight. -/
namespace Go.Proofs.Ytmffdlebahdihaa.ArenaPure
open Go Go.RowKit Go.Proofs.Ytmffdlebahdihaa.Mem Go.Proofs.Ytmffdlebahdihaa.CodecPure Go.Proofs.Ytmffdlebahdihaa.Codec Go.Proofs.Ytmffdlebahdihaa.Arena
set_option linter.unusedVariables false
set_option maxRecDepth 100000

/-! ### fields of a header -/
/-- where a field lies in a header, and how wide it is -/
def fat (f : Int) : Int := if f < 4 then 4 * f else if f = 4 then 16 else if f < 7 then 4 * f + 4 else if f = 7 then 32 else 26 + f
def fw (f : Int) : Int := if f < 4 then 4 else if f = 4 then 8 else if f < 7 then 4 else if f = 7 then 2 else 1
def itemGet (s : St) (at_ f : Int) : Int × Int :=
  if f < 0 ∨ 11 < f ∨ f = 4 then (0, 6)
  else if at_ < 0 ∨ 1024 * (s.own.length : Int) < at_ then (0, 1)
  else if f ≤ 3 then place s (at_ + fat f) else number s (at_ + fat f) (fw f)
def itemSet (s : St) (at_ f v : Int) : St × Int :=
  if f < 0 ∨ 11 < f ∨ f = 4 then (s, 6)
  else if at_ < 0 ∨ 1024 * (s.own.length : Int) < at_ then (s, 1)
  else if f ≤ 3 then setPlace s (at_ + fat f) v
  else if v < 0 then (s, 6) else setNumber s (at_ + fat f) (fw f) v

/-! ### a place that is laid, and read -/
theorem splice_in (L X : List Int) (o a n : Nat) (h : o + X.length ≤ L.length) (h1 : o = a) (h2 : n = X.length) : ((splice L o X).drop a).take n = X := by
  subst h1 h2
  apply List.ext_getElem?
  intro i
  rw [List.getElem?_take]
  by_cases hi : i < X.length
  · rw [if_pos hi, List.getElem?_drop, splice_get _ _ _ h, if_pos (by omega), Nat.add_sub_cancel_left]
  · rw [if_neg hi, List.getElem?_eq_none (by omega)]
theorem splice_off (L X : List Int) (o a n : Nat) (h : o + X.length ≤ L.length) (hf : a + n ≤ o ∨ o + X.length ≤ a) : ((splice L o X).drop a).take n = (L.drop a).take n := by
  apply List.ext_getElem?
  intro i
  rw [List.getElem?_take, List.getElem?_take]
  by_cases hi : i < n
  · rw [if_pos hi, if_pos hi, List.getElem?_drop, List.getElem?_drop, splice_get _ _ _ h, if_neg (by omega)]
  · rw [if_neg hi, if_neg hi]
/-- a number that a place may be -/
def Pl (v : Int) : Prop := -1 ≤ v ∧ v ≤ 2147483647
theorem place_of (s : St) (x : Int) (h : within s x 4) : place s x = (if le (got s x 4) = 4294967295 then (-1, 0) else if le (got s x 4) ≥ 2147483648 then (0, 6) else (le (got s x 4), 0)) ∨ ¬ Ok s := by
  by_cases hs : Ok s
  · left
    have L := got_length hs h
    have e4 : (4 : Int).toNat = 4 := rfl
    unfold place
    rw [if_pos h]
    unfold getPlaceC
    rw [if_pos (show there (got s x 4).length 0 4 from ⟨.inr (.inr (.inl rfl)), by omega, by omega⟩)]
    have e : ((got s x 4).drop (0 : Int).toNat).take 4 = got s x 4 := by
      show (got s x 4).take 4 = _
      exact List.take_of_length_le (by omega)
    rw [e]
  · exact .inr hs
theorem place_eq {s : St} (hs : Ok s) {x : Int} (h : within s x 4) : place s x = (if le (got s x 4) = 4294967295 then (-1, 0) else if le (got s x 4) ≥ 2147483648 then (0, 6) else (le (got s x 4), 0)) :=
  (place_of s x h).resolve_right fun n => n hs
/-- the four bytes of a place -/
def pb4 (v : Int) : List Int := leb (v % 4294967296) 4
theorem pb4_length (v : Int) : (pb4 v).length = 4 := leb_length _ _
theorem pb4_bytes (v : Int) : Bytes (pb4 v) := leb_bytes _ _
theorem le_pb4 (v : Int) : le (pb4 v) = v % 4294967296 := by
  unfold pb4
  rw [le_leb]
  show v % 4294967296 % 4294967296 = _
  omega
/-- what lies where a place is read -/
theorem got_of_place {s : St} (hs : Ok s) {x v : Int} (h : within s x 4) (hp : place s x = (v, 0)) : got s x 4 = pb4 v ∧ Pl v := by
  rw [place_eq hs h] at hp
  have L := got_length hs h
  have e4 : (4 : Int).toNat = 4 := rfl
  have B := got_bytes hs x 4
  have R := le_range _ B
  have E := leb_le _ B
  rw [L, e4] at E R
  have p : (2 : Int) ^ (8 * 4) = 4294967296 := by decide +kernel
  rw [p] at R
  by_cases h1 : le (got s x 4) = 4294967295
  · rw [if_pos h1] at hp
    have : v = -1 := by injection hp with a _; exact a.symm
    subst this
    refine ⟨?_, by decide, by decide⟩
    rw [← E, h1]; rfl
  · rw [if_neg h1] at hp
    by_cases h2 : le (got s x 4) ≥ 2147483648
    · rw [if_pos h2] at hp
      injection hp with _ b
      exact absurd b (by decide)
    · rw [if_neg h2] at hp
      have : v = le (got s x 4) := by injection hp with a _; exact a.symm
      subst this
      refine ⟨?_, by omega, by omega⟩
      unfold pb4
      rw [Int.emod_eq_of_lt (by omega) (by omega)]
      exact E.symm
theorem place_of_got {s : St} (hs : Ok s) {x v : Int} (h : within s x 4) (hv : Pl v) (hg : got s x 4 = pb4 v) : place s x = (v, 0) := by
  rw [place_eq hs h, hg, le_pb4]
  obtain ⟨h1, h2⟩ := hv
  by_cases e : v = -1
  · subst e; rfl
  · rw [if_neg (by omega), if_neg (by omega)]
    congr 1
    omega
theorem setPlace_eq {s : St} (hs : Ok s) {x v : Int} (h : within s x 4) (hv : Pl v) : setPlace s x v = (lay s x (pb4 v), 0) := by
  have L := got_length hs h
  have e4 : (4 : Int).toNat = 4 := rfl
  unfold setPlace
  rw [if_pos h]
  have e : putPlaceC (got s x 4) 0 v = (pb4 v, 0) := by
    unfold putPlaceC
    rw [if_pos (show there (got s x 4).length 0 4 from ⟨.inr (.inr (.inl rfl)), by omega, by omega⟩), if_neg (by unfold Pl at hv; omega)]
    show (splice (got s x 4) 0 _, (0 : Int)) = _
    rw [splice_whole _ _ (by rw [leb_length]; omega)]; rfl
  rw [e]
theorem within_own {s t : St} (h : t.own = s.own) (x n : Int) : within t x n ↔ within s x n := by
  unfold within
  rw [h]
theorem within_part {s : St} {x n : Int} (h : within s x n) (k m : Int) (hk : 0 ≤ k) (hm : 0 ≤ m) (hf : k + m ≤ n) (h0 : 0 < m) : within s (x + k) m := by
  obtain ⟨h1, h2, h3, h4, h5⟩ := h
  have e : (x + k) / 1024 = x / 1024 := by omega
  have e2 : (x + k) % 1024 = x % 1024 + k := by omega
  exact ⟨hm, by omega, by omega, by rw [e]; exact h4, by omega⟩
/-- a state that differs from another one in nothing but bytes -/
structure Lay (s t : St) (S : Nat → Prop) : Prop where
  ok : Ok t
  own : t.own = s.own
  out : ∀ i, ¬ S i → t.B[i]? = s.B[i]?
theorem Lay.refl {s : St} (h : Ok s) (S : Nat → Prop) : Lay s s S := ⟨h, rfl, fun _ _ => rfl⟩
theorem Lay.trans {s t u : St} {S : Nat → Prop} (h : Lay s t S) (k : Lay t u S) : Lay s u S := ⟨k.ok, k.own.trans h.own, fun i hi => (k.out i hi).trans (h.out i hi)⟩
theorem Lay.mono {s t : St} {S T : Nat → Prop} (h : Lay s t S) (hst : ∀ i, S i → T i) : Lay s t T := ⟨h.ok, h.own, fun i hi => h.out i fun hs => hi (hst i hs)⟩
theorem Lay.len {s t : St} {S : Nat → Prop} (hs : Ok s) (h : Lay s t S) : t.B.length = s.B.length := by rw [h.ok.len, hs.len, h.own]
theorem Lay.within {s t : St} {S : Nat → Prop} (h : Lay s t S) (x n : Int) : within t x n ↔ ArenaPure.within s x n := within_own h.own x n
theorem Lay.got {s t : St} {S : Nat → Prop} (h : Lay s t S) (x n : Int) (hx : 0 ≤ x) (hf : ∀ i : Nat, x ≤ i → (i : Int) < x + n → ¬ S i) : got t x n = ArenaPure.got s x n := by
  unfold ArenaPure.got
  apply List.ext_getElem?
  intro i
  rw [List.getElem?_take, List.getElem?_take]
  by_cases hi : i < n.toNat
  · rw [if_pos hi, if_pos hi, List.getElem?_drop, List.getElem?_drop]
    exact h.out _ (hf _ (by omega) (by omega))
  · rw [if_neg hi, if_neg hi]
theorem Lay.place {s t : St} {S : Nat → Prop} (h : Lay s t S) (x : Int) (hx : 0 ≤ x) (hf : ∀ i : Nat, x ≤ i → (i : Int) < x + 4 → ¬ S i) : place t x = ArenaPure.place s x := by
  unfold ArenaPure.place
  have e := h.within x 4
  by_cases hw : ArenaPure.within s x 4
  · rw [if_pos hw, if_pos (e.2 hw), h.got x 4 hx hf]
  · rw [if_neg hw, if_neg fun q => hw (e.1 q)]
/-- a place that is laid -/
theorem lay_place {s : St} (hs : Ok s) {x v : Int} (h : within s x 4) (hv : Pl v) : Lay s (lay s x (pb4 v)) (fun i => x ≤ i ∧ (i : Int) < x + 4) ∧ place (lay s x (pb4 v)) x = (v, 0) := by
  have M := in_row hs h
  have e4 : (4 : Int).toNat = 4 := rfl
  have h0 := h.2.1
  have O := lay_ok hs (at_ := x) (l := pb4 v) (by rw [pb4_length]; omega) (pb4_bytes v)
  refine ⟨⟨O, rfl, fun i hi => ?_⟩, ?_⟩
  · show (splice s.B x.toNat (pb4 v))[i]? = _
    rw [splice_get _ _ _ (by rw [pb4_length]; omega), if_neg (by rw [pb4_length]; omega)]
  · refine place_of_got O ((within_own rfl x 4).2 h) hv ?_
    show ((splice s.B x.toNat (pb4 v)).drop x.toNat).take (4 : Int).toNat = _
    exact splice_in _ _ _ _ _ (by rw [pb4_length]; omega) rfl (by rw [pb4_length]; rfl)
/-- two states with the same pages are the same where the bytes are -/
theorem st_ext {s t : St} (ho : s.own = t.own) (hb : ∀ i : Nat, s.B[i]? = t.B[i]?) : s = t := by
  cases s; cases t
  simp only at ho hb
  subst ho
  congr 1
  exact List.ext_getElem? hb
/-- the same place, the same bytes -/
theorem same_bytes {s t : St} (hs : Ok s) (ht : Ok t) (ho : s.own = t.own) {x v : Int} (h : within s x 4) (h1 : place s x = (v, 0)) (h2 : place t x = (v, 0)) (i : Nat) (hi : x ≤ i ∧ (i : Int) < x + 4) : s.B[i]? = t.B[i]? := by
  have g1 := (got_of_place hs h h1).1
  have g2 := (got_of_place ht ((within_own ho x 4).1 h) h2).1
  have h0 := h.2.1
  have e : (ArenaPure.got s x 4)[i - x.toNat]? = (ArenaPure.got t x 4)[i - x.toNat]? := by rw [g1, g2]
  unfold ArenaPure.got at e
  have e4 : (4 : Int).toNat = 4 := rfl
  rw [List.getElem?_take, List.getElem?_take, if_pos (by omega), if_pos (by omega), List.getElem?_drop, List.getElem?_drop] at e
  have z : x.toNat + (i - x.toNat) = i := by omega
  rw [z] at e
  exact e

/-! ### queues -/
def Apart (x y : Int) : Prop := x + 40 ≤ y ∨ y + 40 ≤ x
theorem Apart.symm {x y : Int} (h : Apart x y) : Apart y x := h.elim .inr .inl
/-- the bytes of the two fields of x that link it -/
def Fld (x : Int) (i : Nat) : Prop := x + 4 ≤ i ∧ (i : Int) < x + 12
/-- from p on the items of L are linked, and n comes behind the last one -/
def Lseg (s : St) (p : Int) (L : List Int) (n : Int) : Prop := match L with
  | [] => True
  | x :: xs => place s (x + 4) = (p, 0) ∧ place s (x + 8) = (xs.headD n, 0) ∧ Lseg s x xs n
/-- L is a queue, the youngest first, linked by its items' fields -/
structure LI (s : St) (L : List Int) : Prop where
  ok : Ok s
  hdr : ∀ x ∈ L, within s x 40
  apart : L.Pairwise Apart
  seg : Lseg s (-1) L (-1)
theorem hdr_pl {s : St} (hs : Ok s) {x : Int} (hh : within s x 40) : Pl x ∧ 0 ≤ x := by
  have := hs.high
  obtain ⟨_, h1, h2, _⟩ := hh
  unfold Pl
  omega
theorem LI.pl {s : St} {L : List Int} (h : LI s L) {x : Int} (hx : x ∈ L) : Pl x ∧ 0 ≤ x := hdr_pl h.ok (h.hdr x hx)
theorem LI.nodup {s : St} {L : List Int} (h : LI s L) : L.Nodup := h.apart.imp fun {a b} hab e => by subst e; unfold Apart at hab; omega
theorem hdr4 {s : St} {x : Int} (h : within s x 40) : within s (x + 4) 4 := within_part h 4 4 (by decide) (by decide) (by decide) (by decide)
theorem hdr8 {s : St} {x : Int} (h : within s x 40) : within s (x + 8) 4 := within_part h 8 4 (by decide) (by decide) (by decide) (by decide)
/-- a place set -/
def sp (s : St) (y v : Int) : St := (setPlace s y v).1
theorem sp_spec {s : St} (hs : Ok s) {y v : Int} (h : within s y 4) (hv : Pl v) : setPlace s y v = (sp s y v, 0) ∧ Lay s (sp s y v) (fun i => y ≤ i ∧ (i : Int) < y + 4) ∧ place (sp s y v) y = (v, 0) := by
  have e := setPlace_eq hs h hv
  have l := lay_place hs h hv
  unfold sp
  rw [e]
  exact ⟨rfl, l⟩
theorem seg_append (s : St) (A : List Int) : ∀ (p : Int) (C : List Int) (n : Int), Lseg s p (A ++ C) n ↔ Lseg s p A (C.headD n) ∧ Lseg s (A.getLastD p) C n := by
  induction A with
  | nil => intro p C n; simp [Lseg]
  | cons x xs ih =>
    intro p C n
    simp only [List.cons_append, Lseg, ih]
    have e : (xs ++ C).headD n = xs.headD (C.headD n) := by cases xs <;> simp
    have e2 : (x :: xs).getLastD p = xs.getLastD x := List.getLastD_cons
    rw [e, e2]
    constructor
    · rintro ⟨h1, h2, h3, h4⟩; exact ⟨⟨h1, h2, h3⟩, h4⟩
    · rintro ⟨⟨h1, h2, h3⟩, h4⟩; exact ⟨h1, h2, h3, h4⟩
theorem seg_frame {s t : St} {S : Nat → Prop} (h : Lay s t S) : ∀ (L : List Int) (p n : Int), (∀ x ∈ L, 0 ≤ x) → (∀ x ∈ L, ∀ i, Fld x i → ¬ S i) → Lseg s p L n → Lseg t p L n := by
  intro L
  induction L with
  | nil => intros; trivial
  | cons x xs ih =>
    intro p n h0 hS hl
    have hx := h0 x (by simp)
    have hSx := hS x (by simp)
    refine ⟨?_, ?_, ih x n (fun y hy => h0 y (by simp [hy])) (fun y hy => hS y (by simp [hy])) hl.2.2⟩
    · rw [h.place (x + 4) (by omega) fun i h1 h2 => hSx i ⟨h1, by omega⟩]; exact hl.1
    · rw [h.place (x + 8) (by omega) fun i h1 h2 => hSx i ⟨by omega, by omega⟩]; exact hl.2.1
theorem Apart.flds {x y : Int} (h : Apart x y) (i : Nat) (hi : Fld x i) : ¬ Fld y i := fun hy => by unfold Fld at *; unfold Apart at h; omega
/-- the same items, before and behind, with another next one: only the last item's field is set -/
theorem seg_next {s : St} (hs : Ok s) (A : List Int) (y p n m : Int) (hh : ∀ x ∈ A ++ [y], within s x 40) (ha : (A ++ [y]).Pairwise Apart) (hm : Pl m) (hl : Lseg s p (A ++ [y]) n) :
    Lseg (sp s (y + 8) m) p (A ++ [y]) m := by
  have hy := hh y (by simp)
  obtain ⟨_, k, e⟩ := sp_spec hs (hdr8 hy) hm
  have z := (hdr_pl hs hy).2
  rw [seg_append] at hl ⊢
  refine ⟨?_, ?_⟩
  · have hl1 : Lseg s p A y := hl.1
    show Lseg _ p A y
    refine seg_frame k A p y (fun x hx => (hdr_pl hs (hh x (by simp [hx]))).2) (fun x hx i hi => ?_) hl1
    have hap : Apart x y := (List.pairwise_append.1 ha).2.2 x hx y (by simp)
    unfold Fld at hi; unfold Apart at hap; omega
  · obtain ⟨h1, _, _⟩ := hl.2
    refine ⟨?_, e, trivial⟩
    rw [k.place (y + 4) (by omega) fun i h1 h2 => by omega]; exact h1
/-- .. with another one ahead: only the first item's field is set -/
theorem seg_prev {s : St} (hs : Ok s) (C : List Int) (y p q n : Int) (hh : ∀ x ∈ y :: C, within s x 40) (ha : (y :: C).Pairwise Apart) (hq : Pl q) (hl : Lseg s p (y :: C) n) :
    Lseg (sp s (y + 4) q) q (y :: C) n := by
  have hy := hh y (by simp)
  obtain ⟨_, k, e⟩ := sp_spec hs (hdr4 hy) hq
  have z := (hdr_pl hs hy).2
  obtain ⟨_, h2, h3⟩ := hl
  refine ⟨e, ?_, ?_⟩
  · rw [k.place (y + 8) (by omega) fun i h1 h2 => by omega]; exact h2
  · refine seg_frame k C y n (fun x hx => (hdr_pl hs (hh x (by simp [hx]))).2) (fun x hx i hi => ?_) h3
    have hap : Apart y x := (List.pairwise_cons.1 ha).1 x hx
    unfold Fld at hi; unfold Apart at hap; omega
theorem Lay.hdr {s t : St} {S : Nat → Prop} (h : Lay s t S) {x : Int} (hx : ArenaPure.within s x 40) : ArenaPure.within t x 40 := (h.within x 40).2 hx
/-- an item laid in between A and C -/
def putS (s : St) (prev at_ after : Int) : St :=
  let s1 := if prev = -1 then s else sp s (prev + 8) at_
  let s2 := sp s1 (at_ + 4) prev
  let s3 := sp s2 (at_ + 8) after
  if after = -1 then s3 else sp s3 (after + 4) at_
/-- the fields of all items of L -/
def Flds (L : List Int) (i : Nat) : Prop := ∃ x ∈ L, Fld x i
theorem put_seg {s : St} {A C : List Int} {at_ : Int} (h : LI s (A ++ C)) (hat : within s at_ 40) (hap : ∀ x ∈ A ++ C, Apart x at_) :
    LI (putS s (A.getLastD (-1)) at_ (C.headD (-1))) (A ++ at_ :: C) ∧ Lay s (putS s (A.getLastD (-1)) at_ (C.headD (-1))) (Flds (A ++ at_ :: C)) := by
  have hs := h.ok
  have hsg := (seg_append s A (-1) C (-1)).1 h.seg
  obtain ⟨pA, pC, pAC⟩ := List.pairwise_append.1 h.apart
  have pat := (hdr_pl hs hat)
  -- the item ahead
  obtain ⟨s1, e1, k1, g1, g1'⟩ : ∃ s1, (if A.getLastD (-1) = -1 then s else sp s (A.getLastD (-1) + 8) at_) = s1 ∧ Lay s s1 (Flds A) ∧ Lseg s1 (-1) A at_ ∧ Lseg s1 (A.getLastD (-1)) C (-1) := by
    rcases List.eq_nil_or_concat A with rfl | ⟨A', y, rfl⟩
    · exact ⟨s, rfl, Lay.refl hs _, trivial, hsg.2⟩
    · rw [List.concat_eq_append] at *
      have el : (A' ++ [y]).getLastD (-1) = y := by simp
      have hy := h.hdr y (by simp)
      have py := hdr_pl hs hy
      rw [el] at hsg ⊢
      have ne : y ≠ -1 := by omega
      refine ⟨_, if_neg ne, ?_, seg_next hs A' y (-1) _ at_ (fun x hx => h.hdr x (by simp at hx ⊢; rcases hx with hx | hx <;> simp [hx])) pA pat.1 hsg.1, ?_⟩
      · exact (sp_spec hs (hdr8 hy) pat.1).2.1.mono fun i hi => ⟨y, by simp, by unfold Fld; omega⟩
      · refine seg_frame (sp_spec hs (hdr8 hy) pat.1).2.1 C y (-1) (fun x hx => (hdr_pl hs (h.hdr x (by simp [hx]))).2) (fun x hx i hi => ?_) hsg.2
        have := pAC y (by simp) x hx
        unfold Apart at this; unfold Fld at hi; omega
  have hs1 := k1.ok
  have plp : Pl (A.getLastD (-1)) := by
    rcases List.eq_nil_or_concat A with rfl | ⟨A', y, rfl⟩
    · exact ⟨by decide, by decide⟩
    · rw [List.concat_eq_append] at *
      have el : (A' ++ [y]).getLastD (-1) = y := by simp
      rw [el]; exact (hdr_pl hs (h.hdr y (by simp))).1
  have pla : Pl (C.headD (-1)) := by
    cases C with
    | nil => exact ⟨by decide, by decide⟩
    | cons z C' => exact (hdr_pl hs (h.hdr z (by simp))).1
  -- the item's own fields
  have w1 := k1.hdr hat
  obtain ⟨_, k2, q2⟩ := sp_spec hs1 (hdr4 w1) plp
  have w2 := k2.hdr w1
  obtain ⟨_, k3, q3⟩ := sp_spec k2.ok (hdr8 w2) pla
  obtain ⟨s2, e2⟩ : ∃ s2, sp s1 (at_ + 4) (A.getLastD (-1)) = s2 := ⟨_, rfl⟩
  rw [e2] at k2 q2 k3 q3
  obtain ⟨s3, e3⟩ : ∃ s3, sp s2 (at_ + 8) (C.headD (-1)) = s3 := ⟨_, rfl⟩
  rw [e3] at k3 q3
  have k13 : Lay s1 s3 (Fld at_) := (k2.mono fun i hi => by unfold Fld; omega).trans (k3.mono fun i hi => by unfold Fld; omega)
  have r4 : place s3 (at_ + 4) = (A.getLastD (-1), 0) := by rw [k3.place (at_ + 4) (by omega) fun i h1 h2 => by omega]; exact q2
  have far : ∀ x ∈ A ++ C, ∀ i, Fld x i → ¬ Fld at_ i := fun x hx i hi => (hap x hx).flds i hi
  have gA : Lseg s3 (-1) A at_ := seg_frame k13 A _ _ (fun x hx => (hdr_pl hs (h.hdr x (by simp [hx]))).2) (fun x hx => far x (by simp [hx])) g1
  have gC : Lseg s3 (A.getLastD (-1)) C (-1) := seg_frame k13 C _ _ (fun x hx => (hdr_pl hs (h.hdr x (by simp [hx]))).2) (fun x hx => far x (by simp [hx])) g1'
  have k03 : Lay s s3 (Flds (A ++ at_ :: C)) := (k1.mono fun i ⟨x, hx, hi⟩ => ⟨x, by simp [hx], hi⟩).trans (k13.mono fun i hi => ⟨at_, by simp, hi⟩)
  have hall : ∀ x ∈ A ++ at_ :: C, within s x 40 := fun x hx => by
    simp only [List.mem_append, List.mem_cons] at hx
    rcases hx with hx | rfl | hx
    · exact h.hdr x (by simp [hx])
    · exact hat
    · exact h.hdr x (by simp [hx])
  have pall : (A ++ at_ :: C).Pairwise Apart := by
    refine List.pairwise_append.2 ⟨pA, List.pairwise_cons.2 ⟨fun x hx => (hap x (by simp [hx])).symm, pC⟩, fun x hx y hy => ?_⟩
    simp only [List.mem_cons] at hy
    rcases hy with rfl | hy
    · exact hap x (by simp [hx])
    · exact pAC x hx y hy
  have main : putS s (A.getLastD (-1)) at_ (C.headD (-1)) = if C.headD (-1) = -1 then s3 else sp s3 (C.headD (-1) + 4) at_ := by
    unfold putS
    simp only
    rw [e1, e2, e3]
  rw [main]
  cases C with
  | nil =>
    have en : ([] : List Int).headD (-1) = -1 := rfl
    rw [if_pos en]
    refine ⟨⟨k03.ok, fun x hx => k03.hdr (hall x hx), pall, ?_⟩, k03⟩
    rw [seg_append]
    exact ⟨gA, r4, q3, trivial⟩
  | cons z C' =>
    have hz := h.hdr z (by simp)
    have pz := hdr_pl hs hz
    have ez : (z :: C').headD (-1) = z := rfl
    rw [ez] at q3 ⊢
    rw [if_neg (by omega)]
    have wz := k03.hdr hz
    obtain ⟨_, k4, q4⟩ := sp_spec k03.ok (hdr4 wz) pat.1
    have apz : Apart z at_ := hap z (by simp)
    have k04 := k03.trans (k4.mono fun i hi => ⟨z, by simp, by unfold Fld; omega⟩)
    refine ⟨⟨k4.ok, fun x hx => k04.hdr (hall x hx), pall, ?_⟩, k04⟩
    rw [seg_append]
    refine ⟨?_, ?_, ?_, ?_⟩
    · refine seg_frame k4 A _ _ (fun x hx => (hdr_pl hs (h.hdr x (by simp [hx]))).2) (fun x hx i hi => ?_) gA
      have := pAC x hx z (by simp)
      unfold Apart at this; unfold Fld at hi; omega
    · rw [k4.place (at_ + 4) (by omega) fun i h1 h2 => by unfold Apart at apz; omega]; exact r4
    · rw [k4.place (at_ + 8) (by omega) fun i h1 h2 => by unfold Apart at apz; omega]; exact q3
    · exact seg_prev k03.ok C' z _ at_ (-1) (fun x hx => k03.hdr (h.hdr x (by simp at hx ⊢; rcases hx with hx | hx <;> simp [hx]))) pC pat.1 gC
/-- an item taken out from in between -/
def delS (s : St) (prev at_ after : Int) : St :=
  let s1 := if prev = -1 then s else sp s (prev + 8) after
  let s2 := if after = -1 then s1 else sp s1 (after + 4) prev
  sp (sp s2 (at_ + 4) (-1)) (at_ + 8) (-1)
theorem del_seg {s : St} {A C : List Int} {at_ : Int} (h : LI s (A ++ at_ :: C)) :
    LI (delS s (A.getLastD (-1)) at_ (C.headD (-1))) (A ++ C) ∧ Lay s (delS s (A.getLastD (-1)) at_ (C.headD (-1))) (Flds (A ++ at_ :: C)) ∧
      place (delS s (A.getLastD (-1)) at_ (C.headD (-1))) (at_ + 4) = (-1, 0) ∧ place (delS s (A.getLastD (-1)) at_ (C.headD (-1))) (at_ + 8) = (-1, 0) := by
  have hs := h.ok
  have hat := h.hdr at_ (by simp)
  have hsg := (seg_append s A (-1) (at_ :: C) (-1)).1 h.seg
  obtain ⟨pA, pC0, pAC0⟩ := List.pairwise_append.1 h.apart
  obtain ⟨pc, pC⟩ := List.pairwise_cons.1 pC0
  have pAC : ∀ x ∈ A, ∀ y ∈ C, Apart x y := fun x hx y hy => pAC0 x hx y (by simp [hy])
  have hap : ∀ x ∈ A ++ C, Apart x at_ := fun x hx => by
    rcases List.mem_append.1 hx with hx | hx
    · exact pAC0 x hx at_ (by simp)
    · exact (pc x hx).symm
  have pat := hdr_pl hs hat
  have hm1 : Pl (-1) := ⟨by decide, by decide⟩
  have pla : Pl (C.headD (-1)) := by
    cases C with
    | nil => exact hm1
    | cons z C' => exact (hdr_pl hs (h.hdr z (by simp))).1
  have plp : Pl (A.getLastD (-1)) := by
    rcases List.eq_nil_or_concat A with rfl | ⟨A', y, rfl⟩
    · exact hm1
    · rw [List.concat_eq_append] at *
      have el : (A' ++ [y]).getLastD (-1) = y := by simp
      rw [el]; exact (hdr_pl hs (h.hdr y (by simp))).1
  have hsC : Lseg s at_ C (-1) := hsg.2.2.2
  obtain ⟨s1, e1, k1, g1, g1'⟩ : ∃ s1, (if A.getLastD (-1) = -1 then s else sp s (A.getLastD (-1) + 8) (C.headD (-1))) = s1 ∧ Lay s s1 (Flds A) ∧ Lseg s1 (-1) A (C.headD (-1)) ∧ Lseg s1 at_ C (-1) := by
    rcases List.eq_nil_or_concat A with rfl | ⟨A', y, rfl⟩
    · exact ⟨s, rfl, Lay.refl hs _, trivial, hsC⟩
    · rw [List.concat_eq_append] at *
      have el : (A' ++ [y]).getLastD (-1) = y := by simp
      have hy := h.hdr y (by simp)
      have py := hdr_pl hs hy
      rw [el]
      have ne : y ≠ -1 := by omega
      refine ⟨_, if_neg ne, ?_, seg_next hs A' y (-1) _ _ (fun x hx => h.hdr x (by simp at hx ⊢; rcases hx with hx | hx <;> simp [hx])) pA pla hsg.1, ?_⟩
      · exact (sp_spec hs (hdr8 hy) pla).2.1.mono fun i hi => ⟨y, by simp, by unfold Fld; omega⟩
      · refine seg_frame (sp_spec hs (hdr8 hy) pla).2.1 C at_ (-1) (fun x hx => (hdr_pl hs (h.hdr x (by simp [hx]))).2) (fun x hx i hi => ?_) hsC
        have := pAC y (by simp) x hx
        unfold Apart at this; unfold Fld at hi; omega
  obtain ⟨s2, e2, k2, g2, g2'⟩ : ∃ s2, (if C.headD (-1) = -1 then s1 else sp s1 (C.headD (-1) + 4) (A.getLastD (-1))) = s2 ∧ Lay s1 s2 (Flds C) ∧ Lseg s2 (-1) A (C.headD (-1)) ∧ Lseg s2 (A.getLastD (-1)) C (-1) := by
    cases C with
    | nil => exact ⟨s1, rfl, Lay.refl k1.ok _, g1, trivial⟩
    | cons z C' =>
      have hz := k1.hdr (h.hdr z (by simp))
      have pz := hdr_pl hs (h.hdr z (by simp))
      have ez : (z :: C').headD (-1) = z := rfl
      rw [ez] at g1 ⊢
      have kz := (sp_spec k1.ok (hdr4 hz) plp).2.1
      refine ⟨_, if_neg (by omega), kz.mono fun i hi => ⟨z, by simp, by unfold Fld; omega⟩, ?_, seg_prev k1.ok C' z _ _ (-1) (fun x hx => k1.hdr (h.hdr x (by simp at hx ⊢; rcases hx with hx | hx <;> simp [hx]))) pC plp g1'⟩
      refine seg_frame kz A _ _ (fun x hx => (hdr_pl hs (h.hdr x (by simp [hx]))).2) (fun x hx i hi => ?_) g1
      have := pAC x hx z (by simp)
      unfold Apart at this; unfold Fld at hi; omega
  have w2 := k2.hdr (k1.hdr hat)
  obtain ⟨_, k3, q3⟩ := sp_spec k2.ok (hdr4 w2) hm1
  have w3 := k3.hdr w2
  obtain ⟨_, k4, q4⟩ := sp_spec k3.ok (hdr8 w3) hm1
  have main : delS s (A.getLastD (-1)) at_ (C.headD (-1)) = sp (sp s2 (at_ + 4) (-1)) (at_ + 8) (-1) := by
    unfold delS
    simp only
    rw [e1, e2]
  rw [main]
  have k24 : Lay s2 (sp (sp s2 (at_ + 4) (-1)) (at_ + 8) (-1)) (Fld at_) := (k3.mono fun i hi => by unfold Fld; omega).trans (k4.mono fun i hi => by unfold Fld; omega)
  have k02 : Lay s s2 (Flds (A ++ at_ :: C)) := (k1.mono fun i ⟨x, hx, hi⟩ => ⟨x, by simp [hx], hi⟩).trans (k2.mono fun i ⟨x, hx, hi⟩ => ⟨x, by simp [hx], hi⟩)
  have k04 := k02.trans (k24.mono fun i hi => ⟨at_, by simp, hi⟩)
  have far : ∀ x ∈ A ++ C, ∀ i, Fld x i → ¬ Fld at_ i := fun x hx i hi => (hap x hx).flds i hi
  refine ⟨⟨k04.ok, fun x hx => k04.hdr (h.hdr x ?_), List.pairwise_append.2 ⟨pA, pC, pAC⟩, ?_⟩, k04, ?_, q4⟩
  · rcases List.mem_append.1 hx with hx | hx <;> simp [hx]
  · rw [seg_append]
    exact ⟨seg_frame k24 A _ _ (fun x hx => (hdr_pl hs (h.hdr x (by simp [hx]))).2) (fun x hx => far x (by simp [hx])) g2, seg_frame k24 C _ _ (fun x hx => (hdr_pl hs (h.hdr x (by simp [hx]))).2) (fun x hx => far x (by simp [hx])) g2'⟩
  · rw [k4.place (at_ + 4) (by omega) fun i h1 h2 => by omega]; exact q3
/-- the two fields of one item of a queue -/
theorem LI.fields {s : St} {A C : List Int} {x : Int} (h : LI s (A ++ x :: C)) : place s (x + 4) = (A.getLastD (-1), 0) ∧ place s (x + 8) = (C.headD (-1), 0) := by
  have := ((seg_append s A (-1) (x :: C) (-1)).1 h.seg).2
  exact ⟨this.1, this.2.1⟩

end Go.Proofs.Ytmffdlebahdihaa.ArenaPure

/- Fields of an item's header: the program's spots, place, Get, Set and the reference's where, Get, Set: what each answers, and what it writes. -/
namespace Go.Proofs.Ytmffdlebahdihaa.Item
open Go Go.RowKit Go.Proofs.Ytmffdlebahdihaa.Mem Go.Proofs.Ytmffdlebahdihaa.CodecPure Go.Proofs.Ytmffdlebahdihaa.ArenaPure Go.Proofs.Ytmffdlebahdihaa.Codec Go.Proofs.Ytmffdlebahdihaa.Arena
set_option linter.unusedVariables false
set_option maxRecDepth 100000
variable {w w' : World} {a : Ar} {s : St}
/-- all places and widths of fields -/
def SP : Array Value := #[.int .i64 0, .int .i64 4, .int .i64 4, .int .i64 4, .int .i64 8, .int .i64 4, .int .i64 12, .int .i64 4, .int .i64 16, .int .i64 8, .int .i64 24, .int .i64 4, .int .i64 28, .int .i64 4, .int .i64 32, .int .i64 2, .int .i64 34, .int .i64 1, .int .i64 35, .int .i64 1, .int .i64 36, .int .i64 1, .int .i64 37, .int .i64 1]
theorem wpList_build_all {P : Program} {ops : Array Oper} {rest : List Oper} {o : Oper} {a : Act} {w : World} {Q : Exit → Act → World → Prop} (hg : o.guard = none) (t : TypeId) (parts : Array (Nat × Operand)) (ho : o.op = .build t parts)
    (cells : Array Value) (hf : P.built t (parts.map fun (i, x) => (i, a.eval x)).toList = some cells)
    (h : wpList P ops Q rest (a.put o.dst (.agg cells)) w) : wpList P ops Q (o :: rest) a w :=
  wpList_build hg t parts ho (by rw [hf]; rfl) (by rw [hf]; exact h)
def Z24 : Array Value := #[.int .i64 0, .int .i64 0, .int .i64 0, .int .i64 0, .int .i64 0, .int .i64 0, .int .i64 0, .int .i64 0, .int .i64 0, .int .i64 0, .int .i64 0, .int .i64 0, .int .i64 0, .int .i64 0, .int .i64 0, .int .i64 0, .int .i64 0, .int .i64 0, .int .i64 0, .int .i64 0, .int .i64 0, .int .i64 0, .int .i64 0, .int .i64 0]
set_option maxHeartbeats 1000000 in
theorem spots_calls (w : World) : Calls Try.prog 61 #[] w fun e w' => e = .returned (.agg SP) ∧ Chg (fun _ => False) w w' := by
  have hb : Hid ((w.alloc (.cells Z24 108)).heap[w.heap.size]? = some (.cells Z24 108 (0, 0))) := heap_alloc_at w _
  have F : Hid (∀ e w', e = Ending.returned (.agg SP) → w' = (w.alloc (.cells Z24 108)).setRow w.heap.size SP → e = Ending.returned (.agg SP) ∧ Chg (fun _ => False) w w') := fun e w' he hw => by
    subst hw
    refine ⟨he, ((Chg.alloc _ w _).trans (Chg.setRow (S := fun b => b = w.heap.size) _ _ _ rfl)).mono fun i h1 h2 => by omega⟩
  have hr : Hid (((w.alloc (.cells Z24 108)).setRow w.heap.size SP).heap[w.heap.size]? = some (.cells SP 108 (0, 0))) := setRow_heap _ _ _ _ _ (0, 0) hb.out
  go_enter Try.func61, Try.ntmps61
  go_wp2_with (first | (refine wpList_build_all rfl 108 _ rfl SP (by kernel_rfl) ?_) | (refine wpList_store_row rfl 108 (.tmp 0) (.tmp 13) rfl w.heap.size SP rfl rfl 108 Z24 hb.out (by kernel_rfl) rfl (by kernel_rfl) ?_))
  exact bodyPost_ret (v := .agg SP) (results_cell_row rfl _ _ w.heap.size 108 SP (0, 0) _ rfl hr.out Try.underlying108 rfl (by kernel_rfl)) rfl (F.out _ _ rfl rfl)
theorem place_yes (n : Int) (w : World) (h : n ≤ 3) : Calls Try.prog 62 #[(.int .i64 n)] w fun e w' => e = .returned (.bool true) ∧ w = w' := by
  go_enter Try.func62, Try.ntmps62
  go_wp2
  go_ret
  exact ⟨rfl, rfl⟩
theorem place_no (n : Int) (w : World) (h : 3 < n) : Calls Try.prog 62 #[(.int .i64 n)] w fun e w' => e = .returned (.bool false) ∧ w = w' := by
  go_enter Try.func62, Try.ntmps62
  go_wp2
  go_ret
  exact ⟨retb (decide_eq_false (by omega)), rfl⟩
theorem number_range (hs : Ok s) (at_ w : Int) (hw : w ≤ 4) : 0 ≤ (number s at_ w).1 ∧ (number s at_ w).1 < 4294967296 := by
  unfold number
  by_cases h : within s at_ w
  · rw [if_pos h]
    unfold getC
    split
    · rename_i ht
      have R := le_range (((got s at_ w).drop (0 : Int).toNat).take w.toNat) (fun x hx => got_bytes hs at_ w x (List.mem_of_mem_drop (List.mem_of_mem_take hx)))
      refine ⟨R.1, Int.lt_of_lt_of_le R.2 ?_⟩
      have hl : (((got s at_ w).drop (0 : Int).toNat).take w.toNat).length ≤ 4 := by rw [List.length_take]; omega
      generalize (((got s at_ w).drop (0 : Int).toNat).take w.toNat).length = n at hl
      have key : ∀ m : Fin 5, (2 : Int) ^ (8 * m.val) ≤ 4294967296 := by decide +kernel
      exact key ⟨n, by omega⟩
    · exact ⟨Int.le_refl _, by decide⟩
  · rw [if_neg h]
    exact ⟨Int.le_refl _, by decide⟩
theorem index_spot (f : Int) (h0 : 0 ≤ f) (h1 : f ≤ 11) : ∀ W : World, (Instr.index 108 (.agg SP) (.int .i64 f)).run Try.prog W = .ok (.agg #[.int .i64 (fat f), .int .i64 (fw f)]) W := by
  have h : f = 0 ∨ f = 1 ∨ f = 2 ∨ f = 3 ∨ f = 4 ∨ f = 5 ∨ f = 6 ∨ f = 7 ∨ f = 8 ∨ f = 9 ∨ f = 10 ∨ f = 11 := by omega
  rcases h with rfl | rfl | rfl | rfl | rfl | rfl | rfl | rfl | rfl | rfl | rfl | rfl
  all_goals exact fun W => by kernel_rfl
/-- two answers, numbers; nothing that was there has turned -/
def Ans2 (w : World) (x y : Int) (e : Ending) (w' : World) : Prop := e = .returned (.tuple #[.int .i64 x, .int .i64 y]) ∧ Chg (fun _ => False) w w'
theorem fat_range (f : Int) (h0 : 0 ≤ f) (h1 : f ≤ 11) : 0 ≤ fat f ∧ fat f ≤ 37 := by
  unfold fat
  split <;> (try split) <;> (try split) <;> (try split) <;> omega
theorem get_calls (hl : Lies w a s) (at_ f : Int) (hx : -9223372036854775808 ≤ at_ ∧ at_ ≤ 9223372036854775807) :
    Calls Try.prog 31 #[(.pointer (some ⟨a.g, 0, none⟩)), (.int .i64 at_), (.int .i64 f)] w (Ans2 w (itemGet s at_ f).1 (itemGet s at_ f).2) := by
  unfold itemGet
  by_cases hf : f < 0 ∨ 11 < f ∨ f = 4
  · rw [if_pos hf]
    have R : Hid (∀ e w', e = Ending.returned (.tuple #[.int .i64 0, .int .i64 6]) → w = w' → Ans2 w 0 6 e w') := fun e w' he hw => by subst hw; exact ⟨he, Chg.refl _ _⟩
    clear hl
    rcases hf with h | h | rfl
    · go_enter Try.func31, Try.ntmps31
      go_wp2
      go_ret2
      exact R.out _ _ rfl rfl
    · have h' : ¬ f < 0 := by omega
      go_enter Try.func31, Try.ntmps31
      go_wp2
      go_ret2
      exact R.out _ _ rfl rfl
    · go_enter Try.func31, Try.ntmps31
      go_wp2
      go_ret2
      exact R.out _ _ rfl rfl
  rw [if_neg hf]
  have r1 := hl.ok.high
  have PC := Lib.hid (pages_calls hl)
  by_cases ha : at_ < 0 ∨ 1024 * (s.own.length : Int) < at_
  · rw [if_pos ha]
    have R : Hid (∀ e w', e = Ending.returned (.tuple #[.int .i64 0, .int .i64 1]) → w = w' → Ans2 w 0 1 e w') := fun e w' he hw => by subst hw; exact ⟨he, Chg.refl _ _⟩
    have f1 : ¬ f < 0 := by omega
    have f2 : ¬ 11 < f := by omega
    have f3 : (f == 4) = false := by rw [beq_eq_false_iff_ne]; omega
    generalize s.own.length = N at PC r1 ha
    clear hl hf
    rcases ha with h | h
    · go_enter Try.func31, Try.ntmps31
      go_wp2
      go_ret2
      exact R.out _ _ rfl rfl
    · have h' : ¬ at_ < 0 := by omega
      have h2 : (N : Int) * 1024 < at_ := by omega
      go_enter Try.func31, Try.ntmps31
      go_wp2_with (go_at_call 55; refine (PC.out).mono ?_; rintro e w' ⟨rfl, rfl⟩)
      go_ret2
      exact R.out _ _ rfl rfl
  rw [if_neg ha]
  have IX := index_spot f (by omega) (by omega)
  have fr := fat_range f (by omega) (by omega)
  have f1 : ¬ f < 0 := by omega
  have f2 : ¬ 11 < f := by omega
  have f3 : (f == 4) = false := by rw [beq_eq_false_iff_ne]; omega
  have a1 : ¬ at_ < 0 := by omega
  have a2 : at_ ≤ (s.own.length : Int) * 1024 := by omega
  have a3 : at_ ≤ 32768 := by omega
  have H0 := Lib.hid hl
  by_cases h3 : f ≤ 3
  · rw [if_pos h3]
    have PL : Hid (∀ W, Lies W a s → Calls Try.prog 54 #[(.pointer (some ⟨a.g, 0, none⟩)), (.int .i64 (at_ + fat f))] W fun e w' => e = .returned (.tuple #[.int .i64 (place s (at_ + fat f)).1, .int .i64 (place s (at_ + fat f)).2]) ∧ W = w') := fun W h => place_calls h _ (by omega)
    have YP := Lib.hid (fun W => place_yes f W h3)
    generalize (place s (at_ + fat f)).1 = x1 at PL ⊢
    generalize (place s (at_ + fat f)).2 = x2 at PL ⊢
    generalize fat f = q at IX PL fr
    obtain ⟨fr1, fr2⟩ := fr
    generalize fw f = u at IX
    generalize s.own.length = N at PC r1 a2
    clear hl hf ha
    go_enter Try.func31, Try.ntmps31
    go_wp2_with (go_at_call 55; refine (PC.out).mono ?_; rintro e w' ⟨rfl, rfl⟩)
    refine (spots_calls w).mono ?_
    rintro e w1 ⟨rfl, c1⟩
    have C1 := Lib.hid c1
    clear c1
    generalize SP = sp at IX ⊢
    have H1 : Hid (Lies (w1.alloc (.cells #[.int .i64 q, .int .i64 u] 107)) a s) := H0.out.chg (C1.out.trans (Chg.alloc _ _ _)) id id fun _ _ => id
    go_wp2_with (first | (go_at_call 62; refine (YP.out _).mono ?_; rintro e w' ⟨rfl, rfl⟩) | (go_at_call 54; refine (PL.out _ H1.out).mono ?_; rintro e w' ⟨rfl, rfl⟩))
    go_ret2
    exact ⟨rfl, C1.out.trans (Chg.alloc _ _ _)⟩
  · rw [if_neg h3]
    have NL : Hid (∀ W, Lies W a s → Calls Try.prog 63 #[(.pointer (some ⟨a.g, 0, none⟩)), (.int .i64 (at_ + fat f)), (.int .i64 (fw f))] W fun e w' => e = .returned (.tuple #[.int .u64 (number s (at_ + fat f) (fw f)).1, .int .i64 (number s (at_ + fat f) (fw f)).2]) ∧ W = w') := fun W h => number_calls h _ _ (by omega)
    have YP := Lib.hid (fun W => place_no f W (by omega))
    have nr := number_range hl.ok (at_ + fat f) (fw f) (by unfold fw; split <;> (try split) <;> (try split) <;> (try split) <;> omega)
    generalize (number s (at_ + fat f) (fw f)).1 = x1 at NL nr ⊢
    generalize (number s (at_ + fat f) (fw f)).2 = x2 at NL ⊢
    generalize fat f = q at IX NL fr
    obtain ⟨fr1, fr2⟩ := fr
    generalize fw f = u at IX NL
    generalize s.own.length = N at PC r1 a2
    obtain ⟨nr1, nr2⟩ := nr
    have h3' : 3 < f := by omega
    clear hl hf ha h3
    go_enter Try.func31, Try.ntmps31
    go_wp2_with (go_at_call 55; refine (PC.out).mono ?_; rintro e w' ⟨rfl, rfl⟩)
    refine (spots_calls w).mono ?_
    rintro e w1 ⟨rfl, c1⟩
    have C1 := Lib.hid c1
    clear c1
    generalize SP = sp at IX ⊢
    have H1 : Hid (Lies (w1.alloc (.cells #[.int .i64 q, .int .i64 u] 107)) a s) := H0.out.chg (C1.out.trans (Chg.alloc _ _ _)) id id fun _ _ => id
    go_wp2_with (first | (go_at_call 62; refine (YP.out _).mono ?_; rintro e w' ⟨rfl, rfl⟩) | (go_at_call 63; refine (NL.out _ H1.out).mono ?_; rintro e w' ⟨rfl, rfl⟩))
    go_ret2
    exact ⟨rfl, C1.out.trans (Chg.alloc _ _ _)⟩
theorem set_calls (hl : Lies w a s) (at_ f v : Int) (hx : -9223372036854775808 ≤ at_ ∧ at_ ≤ 9223372036854775807) (hv : -9223372036854775808 ≤ v ∧ v ≤ 9223372036854775807) :
    Calls Try.prog 38 #[(.pointer (some ⟨a.g, 0, none⟩)), (.int .i64 at_), (.int .i64 f), (.int .i64 v)] w (Now w a (itemSet s at_ f v).1 (itemSet s at_ f v).2) := by
  unfold itemSet
  by_cases hf : f < 0 ∨ 11 < f ∨ f = 4
  · rw [if_pos hf]
    have R : Hid (∀ e w', e = Ending.returned (.int .i64 6) → w = w' → Now w a s 6 e w') := fun e w' he hw => by subst hw; exact ⟨he, hl, Chg.refl _ _⟩
    clear hl
    rcases hf with h | h | rfl
    · go_enter Try.func38, Try.ntmps38
      go_wp2
      go_ret
      exact R.out _ _ rfl rfl
    · have h' : ¬ f < 0 := by omega
      go_enter Try.func38, Try.ntmps38
      go_wp2
      go_ret
      exact R.out _ _ rfl rfl
    · go_enter Try.func38, Try.ntmps38
      go_wp2
      go_ret
      exact R.out _ _ rfl rfl
  rw [if_neg hf]
  have r1 := hl.ok.high
  have PC := Lib.hid (pages_calls hl)
  by_cases ha : at_ < 0 ∨ 1024 * (s.own.length : Int) < at_
  · rw [if_pos ha]
    have R : Hid (∀ e w', e = Ending.returned (.int .i64 1) → w = w' → Now w a s 1 e w') := fun e w' he hw => by subst hw; exact ⟨he, hl, Chg.refl _ _⟩
    have f1 : ¬ f < 0 := by omega
    have f2 : ¬ 11 < f := by omega
    have f3 : (f == 4) = false := by rw [beq_eq_false_iff_ne]; omega
    generalize s.own.length = N at PC r1 ha
    clear hl hf
    rcases ha with h | h
    · go_enter Try.func38, Try.ntmps38
      go_wp2
      go_ret
      exact R.out _ _ rfl rfl
    · have h' : ¬ at_ < 0 := by omega
      have h2 : (N : Int) * 1024 < at_ := by omega
      go_enter Try.func38, Try.ntmps38
      go_wp2_with (go_at_call 55; refine (PC.out).mono ?_; rintro e w' ⟨rfl, rfl⟩)
      go_ret
      exact R.out _ _ rfl rfl
  rw [if_neg ha]
  have IX := index_spot f (by omega) (by omega)
  have fr := fat_range f (by omega) (by omega)
  have f1 : ¬ f < 0 := by omega
  have f2 : ¬ 11 < f := by omega
  have f3 : (f == 4) = false := by rw [beq_eq_false_iff_ne]; omega
  have a1 : ¬ at_ < 0 := by omega
  have a2 : at_ ≤ (s.own.length : Int) * 1024 := by omega
  have a3 : at_ ≤ 32768 := by omega
  have H0 := Lib.hid hl
  by_cases h3 : f ≤ 3
  · rw [if_pos h3]
    have PL : Hid (∀ W, Lies W a s → Calls Try.prog 77 #[(.pointer (some ⟨a.g, 0, none⟩)), (.int .i64 (at_ + fat f)), (.int .i64 v)] W (Now W a (setPlace s (at_ + fat f) v).1 (setPlace s (at_ + fat f) v).2)) := fun W h => setplace_calls h _ _ (by omega) hv
    have YP := Lib.hid (fun W => place_yes f W h3)
    generalize (setPlace s (at_ + fat f) v).1 = x1 at PL ⊢
    generalize (setPlace s (at_ + fat f) v).2 = x2 at PL ⊢
    generalize fat f = q at IX PL fr
    obtain ⟨fr1, fr2⟩ := fr
    generalize fw f = u at IX
    generalize s.own.length = N at PC r1 a2
    clear hl hf ha hv
    go_enter Try.func38, Try.ntmps38
    go_wp2_with (go_at_call 55; refine (PC.out).mono ?_; rintro e w' ⟨rfl, rfl⟩)
    refine (spots_calls w).mono ?_
    rintro e w1 ⟨rfl, c1⟩
    have C1 := Lib.hid c1
    clear c1
    generalize SP = sp at IX ⊢
    have H1 : Hid (Lies (w1.alloc (.cells #[.int .i64 q, .int .i64 u] 107)) a s) := H0.out.chg (C1.out.trans (Chg.alloc _ _ _)) id id fun _ _ => id
    go_wp2_with (go_at_call 62; refine (YP.out _).mono ?_; rintro e w' ⟨rfl, rfl⟩)
    refine (PL.out _ H1.out).mono ?_
    rintro e w2 ⟨rfl, l2, c2⟩
    have F : Hid (∀ e w', e = Ending.returned (.int .i64 x2) → w2 = w' → Now w a x1 x2 e w') := fun e w' he hw => by
      subst hw
      exact ⟨he, l2, ((C1.out.trans (Chg.alloc _ _ _)).mono fun _ _ h => h.elim).trans c2⟩
    clear l2 c2
    go_wp2
    go_ret
    exact F.out _ _ rfl rfl
  · rw [if_neg h3]
    have YP := Lib.hid (fun W => place_no f W (by omega))
    have h3' : 3 < f := by omega
    by_cases hv0 : v < 0
    · rw [if_pos hv0]
      generalize fat f = q at IX fr
      generalize fw f = u at IX
      generalize s.own.length = N at PC r1 a2
      clear hl hf ha h3 hv
      go_enter Try.func38, Try.ntmps38
      go_wp2_with (go_at_call 55; refine (PC.out).mono ?_; rintro e w' ⟨rfl, rfl⟩)
      refine (spots_calls w).mono ?_
      rintro e w1 ⟨rfl, c1⟩
      have C1 := Lib.hid c1
      clear c1
      generalize SP = sp at IX ⊢
      have H1 : Hid (Lies (w1.alloc (.cells #[.int .i64 q, .int .i64 u] 107)) a s) := H0.out.chg (C1.out.trans (Chg.alloc _ _ _)) id id fun _ _ => id
      go_wp2_with (go_at_call 62; refine (YP.out _).mono ?_; rintro e w' ⟨rfl, rfl⟩)
      go_ret
      exact ⟨rfl, H1.out, (C1.out.trans (Chg.alloc _ _ _)).mono fun _ _ h => h.elim⟩
    · rw [if_neg hv0]
      have NL : Hid (∀ W, Lies W a s → Calls Try.prog 78 #[(.pointer (some ⟨a.g, 0, none⟩)), (.int .i64 (at_ + fat f)), (.int .i64 (fw f)), (.int .u64 v)] W (Now W a (setNumber s (at_ + fat f) (fw f) v).1 (setNumber s (at_ + fat f) (fw f) v).2)) := fun W h => setnumber_calls h _ _ _ (by omega) (by omega) (by omega)
      have wv : IntKind.u64.wrap v = v := by rw [u64_wrap]; omega
      generalize (setNumber s (at_ + fat f) (fw f) v).1 = x1 at NL ⊢
      generalize (setNumber s (at_ + fat f) (fw f) v).2 = x2 at NL ⊢
      generalize fat f = q at IX NL fr
      obtain ⟨fr1, fr2⟩ := fr
      generalize fw f = u at IX NL
      generalize s.own.length = N at PC r1 a2
      have hv0' : 0 ≤ v := by omega
      clear hl hf ha h3 hv hv0
      go_enter Try.func38, Try.ntmps38
      go_wp2_with (go_at_call 55; refine (PC.out).mono ?_; rintro e w' ⟨rfl, rfl⟩)
      refine (spots_calls w).mono ?_
      rintro e w1 ⟨rfl, c1⟩
      have C1 := Lib.hid c1
      clear c1
      generalize SP = sp at IX ⊢
      have H1 : Hid (Lies (w1.alloc (.cells #[.int .i64 q, .int .i64 u] 107)) a s) := H0.out.chg (C1.out.trans (Chg.alloc _ _ _)) id id fun _ _ => id
      go_wp2_with (go_at_call 62; refine (YP.out _).mono ?_; rintro e w' ⟨rfl, rfl⟩)
      refine (NL.out _ H1.out).mono ?_
      rintro e w2 ⟨rfl, l2, c2⟩
      have F : Hid (∀ e w', e = Ending.returned (.int .i64 x2) → w2 = w' → Now w a x1 x2 e w') := fun e w' he hw => by
        subst hw
        exact ⟨he, l2, ((C1.out.trans (Chg.alloc _ _ _)).mono fun _ _ h => h.elim).trans c2⟩
      clear l2 c2
      go_wp2
      go_ret
      exact F.out _ _ rfl rfl
/-! ### the reference's -/
variable {r : Ra}
/-- the reference's place and width: nought, nought where there is no such field -/
theorem where_calls (f : Int) (w : World) (h0 : 0 ≤ f) (h1 : f ≤ 11) : Calls Try.prog 114 #[(.int .i64 f)] w fun e w' => e = .returned (.tuple #[.int .i64 (fat f), .int .i64 (fw f)]) ∧ w = w' := by
  have h : f = 0 ∨ f = 1 ∨ f = 2 ∨ f = 3 ∨ f = 4 ∨ f = 5 ∨ f = 6 ∨ f = 7 ∨ f = 8 ∨ f = 9 ∨ f = 10 ∨ f = 11 := by omega
  clear h0 h1
  rcases h with rfl | rfl | rfl | rfl | rfl | rfl | rfl | rfl | rfl | rfl | rfl | rfl
  all_goals
    go_enter Try.func114, Try.ntmps114
    go_wp2
    go_ret2
    exact ⟨rfl, rfl⟩
theorem where_no (f : Int) (w : World) (h : f < 0 ∨ 11 < f) : Calls Try.prog 114 #[(.int .i64 f)] w fun e w' => e = .returned (.tuple #[.int .i64 0, .int .i64 0]) ∧ w = w' := by
  have e0 : (f == 0) = false := by rw [beq_eq_false_iff_ne]; omega
  have e1 : (f == 1) = false := by rw [beq_eq_false_iff_ne]; omega
  have e2 : (f == 2) = false := by rw [beq_eq_false_iff_ne]; omega
  have e3 : (f == 3) = false := by rw [beq_eq_false_iff_ne]; omega
  have e4 : (f == 4) = false := by rw [beq_eq_false_iff_ne]; omega
  have e5 : (f == 5) = false := by rw [beq_eq_false_iff_ne]; omega
  have e6 : (f == 6) = false := by rw [beq_eq_false_iff_ne]; omega
  have e7 : (f == 7) = false := by rw [beq_eq_false_iff_ne]; omega
  have e8 : (f == 8) = false := by rw [beq_eq_false_iff_ne]; omega
  have e9 : (f == 9) = false := by rw [beq_eq_false_iff_ne]; omega
  have e10 : (f == 10) = false := by rw [beq_eq_false_iff_ne]; omega
  have e11 : (f == 11) = false := by rw [beq_eq_false_iff_ne]; omega
  clear h
  go_enter Try.func114, Try.ntmps114
  go_wp2
  go_ret2
  exact ⟨rfl, rfl⟩
theorem fw_pos (f : Int) : 0 < fw f := by
  unfold fw
  split <;> (try split) <;> (try split) <;> (try split) <;> omega
theorem refset_calls (hl : RLies w r s) (at_ f v : Int) (hx : -9223372036854775808 ≤ at_ ∧ at_ ≤ 9223372036854775807) (hv : -9223372036854775808 ≤ v ∧ v ≤ 9223372036854775807) :
    Calls Try.prog 97 #[(.pointer (some ⟨r.g, 0, none⟩)), (.int .i64 at_), (.int .i64 f), (.int .i64 v)] w (RNow w r (itemSet s at_ f v).1 (itemSet s at_ f v).2) := by
  unfold itemSet
  by_cases hf : f < 0 ∨ 11 < f ∨ f = 4
  · rw [if_pos hf]
    have R : Hid (∀ e w', e = Ending.returned (.int .i64 6) → w = w' → RNow w r s 6 e w') := fun e w' he hw => by subst hw; exact ⟨he, hl, Chg.refl _ _⟩
    clear hl
    by_cases h4 : f = 4
    · subst h4
      have W := Lib.hid (where_calls 4 w (by decide) (by decide))
      go_enter Try.func97, Try.ntmps97
      go_wp2_with (go_at_call 114; refine (W.out).mono ?_; rintro e w' ⟨rfl, rfl⟩)
      go_ret
      exact R.out _ _ rfl rfl
    · have W := Lib.hid (where_no f w (by omega))
      clear hf h4
      go_enter Try.func97, Try.ntmps97
      go_wp2_with (go_at_call 114; refine (W.out).mono ?_; rintro e w' ⟨rfl, rfl⟩)
      go_ret
      exact R.out _ _ rfl rfl
  rw [if_neg hf]
  have r1 := hl.ok.high
  have W := Lib.hid (where_calls f w (by omega) (by omega))
  have fp := fw_pos f
  have fz : (fw f == 0) = false := by rw [beq_eq_false_iff_ne]; omega
  have f3 : (f == 4) = false := by rw [beq_eq_false_iff_ne]; omega
  have k2 := hl.hdB
  rw [hl.ok.len] at k2
  have hcast : ((1024 * s.own.length : Nat) : Int) = 1024 * (s.own.length : Int) := by omega
  have fr := fat_range f (by omega) (by omega)
  have H0 := Lib.hid hl
  by_cases ha : at_ < 0 ∨ 1024 * (s.own.length : Int) < at_
  · rw [if_pos ha]
    have R : Hid (∀ e w', e = Ending.returned (.int .i64 1) → w = w' → RNow w r s 1 e w') := fun e w' he hw => by subst hw; exact ⟨he, hl, Chg.refl _ _⟩
    generalize 1024 * s.own.length = N at k2 hcast
    rw [← hcast] at ha
    generalize fat f = q at W
    generalize fw f = u at W fz
    clear hl hf hcast fp fr
    rcases ha with h | h
    · go_enter Try.func97, Try.ntmps97
      go_wp2_with (go_at_call 114; refine (W.out).mono ?_; rintro e w' ⟨rfl, rfl⟩)
      go_ret
      exact R.out _ _ rfl rfl
    · have h' : ¬ at_ < 0 := by omega
      go_enter Try.func97, Try.ntmps97
      go_wp2_with (go_at_call 114; refine (W.out).mono ?_; rintro e w' ⟨rfl, rfl⟩)
      go_ret
      exact R.out _ _ rfl rfl
  rw [if_neg ha]
  have a1 : ¬ at_ < 0 := by omega
  have a3 : at_ ≤ 32768 := by omega
  by_cases h3 : f ≤ 3
  · rw [if_pos h3]
    have PL := Lib.hid (refsetplace_calls hl (at_ + fat f) v (by omega) hv)
    generalize (setPlace s (at_ + fat f) v).1 = x1 at PL ⊢
    generalize (setPlace s (at_ + fat f) v).2 = x2 at PL ⊢
    generalize 1024 * s.own.length = N at k2 hcast
    rw [← hcast] at ha
    have a2 : at_ ≤ N := by omega
    have h3' : f < 4 := by omega
    generalize fat f = q at W PL fr
    generalize fw f = u at W fz
    obtain ⟨fr1, fr2⟩ := fr
    clear hl hf ha hv hcast fp h3
    go_enter Try.func97, Try.ntmps97
    go_wp2_with (go_at_call 114; refine (W.out).mono ?_; rintro e w' ⟨rfl, rfl⟩)
    refine PL.out.mono ?_
    rintro e w2 ⟨rfl, l2, c2⟩
    have F : Hid (∀ e w', e = Ending.returned (.int .i64 x2) → w2 = w' → RNow w r x1 x2 e w') := fun e w' he hw => by
      subst hw
      exact ⟨he, l2, c2⟩
    clear l2 c2
    go_wp2
    go_ret
    exact F.out _ _ rfl rfl
  · rw [if_neg h3]
    have h3' : 4 ≤ f := by omega
    by_cases hv0 : v < 0
    · rw [if_pos hv0]
      generalize 1024 * s.own.length = N at k2 hcast
      rw [← hcast] at ha
      have a2 : at_ ≤ N := by omega
      generalize fat f = q at W
      generalize fw f = u at W fz
      clear hl hf ha hv hcast fp fr h3
      go_enter Try.func97, Try.ntmps97
      go_wp2_with (go_at_call 114; refine (W.out).mono ?_; rintro e w' ⟨rfl, rfl⟩)
      go_ret
      exact ⟨rfl, H0.out, Chg.refl _ _⟩
    · rw [if_neg hv0]
      have NL := Lib.hid (refsetnumber_calls hl (at_ + fat f) (fw f) v (by omega) (by omega) (by omega))
      have wv : IntKind.u64.wrap v = v := by rw [u64_wrap]; omega
      generalize (setNumber s (at_ + fat f) (fw f) v).1 = x1 at NL ⊢
      generalize (setNumber s (at_ + fat f) (fw f) v).2 = x2 at NL ⊢
      generalize 1024 * s.own.length = N at k2 hcast
      rw [← hcast] at ha
      have a2 : at_ ≤ N := by omega
      generalize fat f = q at W NL fr
      obtain ⟨fr1, fr2⟩ := fr
      generalize fw f = u at W fz NL
      have hv0' : 0 ≤ v := by omega
      clear hl hf ha hv hcast fp h3 hv0
      go_enter Try.func97, Try.ntmps97
      go_wp2_with (go_at_call 114; refine (W.out).mono ?_; rintro e w' ⟨rfl, rfl⟩)
      refine NL.out.mono ?_
      rintro e w2 ⟨rfl, l2, c2⟩
      have F : Hid (∀ e w', e = Ending.returned (.int .i64 x2) → w2 = w' → RNow w r x1 x2 e w') := fun e w' he hw => by
        subst hw
        exact ⟨he, l2, c2⟩
      clear l2 c2
      go_wp2
      go_ret
      exact F.out _ _ rfl rfl
end Go.Proofs.Ytmffdlebahdihaa.Item

/- A map from numbers to true, as a set: what is asked, laid in, taken out, counted. No program in sight. -/
namespace Go.Proofs.Ytmffdlebahdihaa.Mem
open Go Go.RowKit Go.MapKept
set_option linter.unusedVariables false
set_option maxRecDepth 100000
/-- block b is a map whose keys are the numbers of L, each with true -/
def MSet (w : World) (b : Nat) (L : List Int) : Prop :=
  ∃ (es : Array MapEntry) (clock : Nat) (ks : List Int), w.heap[b]? = some (.map es clock) ∧ es.toList.map (fun e => (e.key, e.val)) = ks.map (fun n => (Value.int .i64 n, Value.bool true)) ∧ ks.Perm L ∧ L.Nodup
theorem MSet.lt {w : World} {b : Nat} {L : List Int} (h : MSet w b L) : b < w.heap.size := by
  obtain ⟨es, clock, ks, hb, _⟩ := h
  exact blk_lt hb
theorem MSet.chg {w w' : World} {b : Nat} {L : List Int} {S : Nat → Prop} (h : MSet w b L) (hc : Chg S w w') (hs : ¬ S b) : MSet w' b L := by
  obtain ⟨es, clock, ks, hb, r⟩ := h
  exact ⟨es, clock, ks, hc.keep hb hs, r⟩
theorem MSet.perm {w : World} {b : Nat} {L M : List Int} (h : MSet w b L) (hp : L.Perm M) : MSet w b M := by
  obtain ⟨es, clock, ks, hb, h1, h2, h3⟩ := h
  exact ⟨es, clock, ks, hb, h1, h2.trans hp, hp.nodup_iff.1 h3⟩
theorem MSet.made (w : World) : MSet (w.alloc (.map #[] 0)) w.heap.size [] :=
  ⟨#[], 0, [], by show (w.heap.push _)[w.heap.size]? = _; rw [Array.getElem?_push_size], rfl, List.Perm.refl _, List.nodup_nil⟩
/-- what is laid into a map's block -/
theorem chg_map (w : World) (b : Nat) (o : Obj) : Chg (fun x => x = b) w { w with heap := w.heap.setIfInBounds b o } :=
  ⟨rfl, rfl, rfl, by simp, fun x _ hx => by
    show (w.heap.setIfInBounds b o)[x]? = _
    rw [Array.getElem?_setIfInBounds, if_neg (fun e => hx e.symm)]⟩
theorem eraseIdx_of_map {α β : Type} (f : α → β) : ∀ (l : List α) (i : Nat), (l.map f).eraseIdx i = (l.eraseIdx i).map f
  | [], _ => by simp
  | x :: l, 0 => rfl
  | x :: l, i + 1 => by simp [eraseIdx_of_map f l i]
theorem eraseIdx_nodup : ∀ (l : List Int) (j : Nat) (n : Int), l.Nodup → l[j]? = some n → l.eraseIdx j = l.erase n
  | [], j, n, _, h => by simp at h
  | x :: l, 0, n, _, h => by
    injection h with h
    subst h
    simp
  | x :: l, j + 1, n, hn, h => by
    have h' : l[j]? = some n := h
    have hx : x ≠ n := fun e => by
      subst e
      exact (List.nodup_cons.1 hn).1 (List.mem_of_getElem? h')
    rw [List.eraseIdx_cons_succ, List.erase_cons_tail (by simpa using hx), eraseIdx_nodup l j n (List.nodup_cons.1 hn).2 h']
section
variable {P : Program} {w : World} {b : Nat} {L : List Int} {t kt et : TypeId}
theorem entries_find {es : List MapEntry} {ks : List Int} (h : es.map (fun e => (e.key, e.val)) = ks.map (fun n => (Value.int .i64 n, Value.bool true))) (n : Int) :
    (n ∉ ks ∧ Instr.findNow (.int .i64) (.int .i64 n) es 0 = some none) ∨ ∃ j, ks[j]? = some n ∧ Instr.findNow (.int .i64) (.int .i64 n) es 0 = some (some (j, .bool true)) := by
  have hk : ∀ (j : Nat) (e : MapEntry), es[j]? = some e → ∃ m, ks[j]? = some m ∧ e.key = .int .i64 m ∧ e.val = .bool true := fun j e he => by
    have h1 : (es.map (fun e => (e.key, e.val)))[j]? = some (e.key, e.val) := by rw [List.getElem?_map, he]; rfl
    rw [h, List.getElem?_map] at h1
    cases hj : ks[j]? with
    | none => rw [hj] at h1; cases h1
    | some m =>
      rw [hj] at h1
      injection h1 with h1
      injection h1 with h2 h3
      exact ⟨m, rfl, h2.symm, h3.symm⟩
  have keys : ∀ x ∈ es, IsKey (.int .i64) x.key := fun x hx => by
    obtain ⟨j, hj⟩ := List.getElem?_of_mem hx
    obtain ⟨m, _, e, _⟩ := hk j x hj
    rw [e]; rfl
  rcases findNow_spec (d := .int .i64) (k := .int .i64 n) rfl es 0 keys with ⟨h1, h2⟩ | ⟨j, e, h1, h2, h3⟩
  · refine .inl ⟨fun hn => ?_, h1⟩
    obtain ⟨j, hj⟩ := List.getElem?_of_mem hn
    have hl : es.length = ks.length := by have := congrArg List.length h; simpa using this
    have hjl : j < es.length := by
      rcases Nat.lt_or_ge j ks.length with h | h
      · omega
      · rw [List.getElem?_eq_none h] at hj; cases hj
    obtain ⟨m, e1, e2, _⟩ := hk j _ (List.getElem?_eq_getElem hjl)
    rw [hj] at e1
    injection e1 with e1
    subst e1
    exact h2 _ (List.getElem_mem hjl) e2
  · obtain ⟨m, e1, e2, e3⟩ := hk j e h2
    rw [h3] at e2
    injection e2 with _ e2
    subst e2
    rw [Nat.zero_add, e3] at h1
    exact .inr ⟨j, e1, h1⟩
theorem MSet.lookup (h : MSet w b L) (ht : P.underlying t = some (.map kt et)) (hkt : P.underlying kt = some (.int .i64)) (hz : (zeroValue et).run P w = .ok (.bool false) w) (n : Int) :
    (Instr.lookup t (.map (some b)) (.int .i64 n) false).run P w = .ok (.bool (decide (n ∈ L))) w := by
  obtain ⟨es, clock, ks, hb, h1, h2, h3⟩ := h
  rcases entries_find h1 n with ⟨hn, hf⟩ | ⟨j, hj, hf⟩
  · rw [decide_eq_false (fun hm => hn (h2.mem_iff.2 hm))]
    simp [Instr.lookup, run_underlying ht, MapKept.run_getObj_map hb, MapKept.run_checkKey hkt (show IsKey (.int .i64) (.int .i64 n) from rfl), MapKept.run_findKey hkt hf, hz, Result.andThen]
  · rw [decide_eq_true (h2.mem_iff.1 (List.mem_of_getElem? hj))]
    simp [Instr.lookup, run_underlying ht, MapKept.run_getObj_map hb, MapKept.run_checkKey hkt (show IsKey (.int .i64) (.int .i64 n) from rfl), MapKept.run_findKey hkt hf, Result.andThen]
theorem MSet.update (h : MSet w b L) (ht : P.underlying t = some (.map kt et)) (hkt : P.underlying kt = some (.int .i64)) (n : Int) (hn : n ∉ L) :
    ∃ w', (Instr.mapUpdate t (.map (some b)) (.int .i64 n) (.bool true)).run P w = .ok () w' ∧ MSet w' b (n :: L) ∧ Chg (fun x => x = b) w w' := by
  obtain ⟨es, clock, ks, hb, h1, h2, h3⟩ := h
  rcases entries_find h1 n with ⟨hn', hf⟩ | ⟨j, hj, hf⟩
  · refine ⟨_, by simp [Instr.mapUpdate, run_underlying ht, MapKept.run_getObj_map hb, MapKept.run_checkKey hkt (show IsKey (.int .i64) (.int .i64 n) from rfl), MapKept.run_findKey hkt hf, MapKept.run_setObj_map _ hb, Result.andThen]; rfl, ⟨es.push { key := .int .i64 n, val := .bool true, born := clock }, clock + 1, ks ++ [n], ?_, ?_, ?_, ?_⟩, chg_map w b _⟩
    · exact (heap_set hb).1
    · rw [Array.toList_push, List.map_append, h1, List.map_append]; rfl
    · exact (List.perm_append_comm).trans (h2.cons n)
    · exact List.nodup_cons.2 ⟨hn, h3⟩
  · exact absurd (h2.mem_iff.1 (List.mem_of_getElem? hj)) hn
theorem MSet.delete (h : MSet w b L) (ht : P.underlying t = some (.map kt et)) (hkt : P.underlying kt = some (.int .i64)) (n : Int) (hn : n ∈ L) (ty kt' : TypeId) :
    ∃ w', (Builtin.delete_ #[t, kt'] ty #[.map (some b), .int .i64 n]).run P w = .ok (.tuple #[]) w' ∧ MSet w' b (L.erase n) ∧ Chg (fun x => x = b) w w' := by
  obtain ⟨es, clock, ks, hb, h1, h2, h3⟩ := h
  rcases entries_find h1 n with ⟨hn', hf⟩ | ⟨j, hj, hf⟩
  · exact absurd (h2.mem_iff.2 hn) hn'
  · have hl : es.size = ks.length := by have := congrArg List.length h1; simpa using this
    have hjl : j < ks.length := by
      rcases Nat.lt_or_ge j ks.length with h | h
      · exact h
      · rw [List.getElem?_eq_none h] at hj; cases hj
    have nk : ks.Nodup := h2.nodup_iff.2 h3
    refine ⟨_, by simp [Builtin.delete_, run_underlying ht, MapKept.run_getObj_map hb, MapKept.run_checkKey hkt (show IsKey (.int .i64) (.int .i64 n) from rfl), MapKept.run_findKey hkt hf, MapKept.run_setObj_map _ hb, Result.andThen]; rfl, ⟨es.eraseIdxIfInBounds j, clock, ks.eraseIdx j, ?_, ?_, ?_, ?_⟩, chg_map w b _⟩
    · exact (heap_set hb).1
    · have e : (es.eraseIdxIfInBounds j).toList = es.toList.eraseIdx j := by
        unfold Array.eraseIdxIfInBounds
        rw [dif_pos (by omega)]
        simp
      rw [e, ← eraseIdx_of_map, h1, eraseIdx_of_map]
    · have e : ks.eraseIdx j = ks.erase n := eraseIdx_nodup ks j n nk hj
      rw [e]
      exact h2.erase n
    · exact h3.erase n
theorem MSet.len (h : MSet w b L) (ht : P.underlying t = some (.map kt et)) (ty : TypeId) : (Builtin.len_ #[t] ty #[.map (some b)]).run P w = .ok (.int .i64 L.length) w := by
  obtain ⟨es, clock, ks, hb, h1, h2, h3⟩ := h
  have hl : es.size = ks.length := by have := congrArg List.length h1; simpa using this
  have e : es.size = L.length := by rw [hl]; exact h2.length_eq
  simp [Builtin.len_, run_underlying ht, MapKept.run_getObj_map hb, Result.andThen, e]
  rfl
end
end Go.Proofs.Ytmffdlebahdihaa.Mem

/- The walk of chapter 08's Made, without bytes: both arenas, all pages but one granted. -/
namespace Go.Proofs.Ytmffdlebahdihaa.Arena
open Go Go.RowKit Go.Proofs.Ytmffdlebahdihaa.Mem Go.Proofs.Ytmffdlebahdihaa.CodecPure Go.Proofs.Ytmffdlebahdihaa.ArenaPure Go.Proofs.Ytmffdlebahdihaa.Codec
set_option linter.unusedVariables false
set_option maxRecDepth 100000
theorem Two.began {w w1 w2 : World} {a : Ar} {r : Ra} {s : St} (hl : Lies w1 a s) (hc : Chg (fun _ => False) w w1) (h1 : w.heap.size ≤ a.g) (h2 : w.heap.size ≤ a.ps) (h3 : ∀ b ∈ a.pb, w.heap.size ≤ b) (h4 : ∀ b ∈ a.pb, b < w1.heap.size) (h5 : a.ps < w1.heap.size)
    (hr : RLies w2 r s) (hc2 : Chg (fun _ => False) w1 w2) (g1 : w1.heap.size ≤ r.g) (g2 : w1.heap.size ≤ r.o) (g3 : w1.heap.size ≤ r.b) : Two w.heap.size w w2 a r s s := by
  have z := hc.size
  have zg := blk_lt hl.head
  have far : ∀ x, w1.heap.size ≤ x → x ≠ a.g ∧ x ≠ a.ps ∧ x ∉ a.pb := fun x hx => ⟨by omega, by omega, fun hb => by have := h4 x hb; omega⟩
  refine ⟨⟨hl.chg hc2 id id fun _ _ => id, (hc.trans hc2).mono fun _ _ h => h.elim, h1, h2, h3⟩, hr, ⟨by omega, by omega, by omega⟩, fun x hx => ?_⟩
  rcases hx with rfl | rfl | rfl
  · exact far _ g1
  · exact far _ g2
  · exact far _ g3
/-- after k grants of class 1 -/
def granting (s : St) : Nat → St
  | 0 => s
  | k + 1 => (ArenaPure.grant (granting s k) 1).1
/-- Made's arena of m pages -/
def madeS (m : Nat) : St := granting (new m) (m - 1)
set_option maxHeartbeats 4000000 in
theorem made_calls (n : Int) (w : World) (q : Nat) (hq : q < 6) (q1 : (IntKind.u64.wrap n).tmod 6 = q) (q2 : IntKind.u64.wrap n % 6 = q) :
    Calls Try.prog 68 #[(.int .i64 n), .slice none 0 0] w fun e w' => ∃ a r, e = .returned (.tuple #[(.pointer (some ⟨a.g, 0, none⟩)), (.pointer (some ⟨r.g, 0, none⟩)), .bool true]) ∧ Two w.heap.size w w' a r (madeS (2 + q)) (madeS (2 + q)) := by
  obtain ⟨m, hm⟩ : ∃ m, 2 + q = m := ⟨_, rfl⟩
  have e0 : ((2 : Int) + (q : Int)) = m := by omega
  have hm8 : m < 8 := by omega
  have hm2 : 2 ≤ m := by omega
  have em : (m : Int).toNat = m := by omega
  rw [hm]
  clear hm
  go_enter Try.func68, Try.ntmps68
  go_wp2_with fail
  refine (new_calls m w).mono ?_
  rintro e wa hn
  rcases hn with ⟨hq, _⟩ | ⟨_, _, a, rfl, hl, hc, k1, k2, k3, k4, k5⟩
  · omega
  rw [em] at hl
  have K := Lib.hid (fun (w2 : World) (r : Ra) (hr : RLies w2 r (new m)) (hc2 : Chg (fun _ => False) wa w2) (g1 : wa.heap.size ≤ r.g) (g2 : wa.heap.size ≤ r.o) (g3 : wa.heap.size ≤ r.b) => Two.began hl hc k1 k2 k3 k4 k5 hr hc2 g1 g2 g3)
  clear hl hc k1 k2 k3 k4 k5
  go_wp2_with fail
  refine (refnew_calls m wa).mono ?_
  rintro e wb hn
  rcases hn with ⟨hq, _⟩ | ⟨_, _, r, rfl, hr, hc2, g1, g2, g3⟩
  · omega
  rw [em] at hr
  have H0 := Lib.hid (K.out wb r hr hc2 g1 g2 g3)
  clear hr hc2 g1 g2 g3 K q1 q2 em
  go_wp2_with fail
  go_loopg [11] 10 (fun g i wr => ∃ k : Nat, i = .int .i64 k ∧ g = 10 - k ∧ k + 1 ≤ m ∧ Hid (Two w.heap.size w wr a r (granting (new m) k) (granting (new m) k)))
  case atStart => exact ⟨0, rfl, rfl, by omega, H0.out⟩
  case round =>
    obtain ⟨k, rfl, hg, hk, H5⟩ := hrel
    obtain ⟨wo, rfl⟩ : ∃ wo : World, wo = wr := ⟨_, rfl⟩
    have hg2 := Lib.hid hg
    clear hg
    by_cases hlt : k + 1 < m
    · have t1 : ((k : Int) + 1 < m) := by omega
      have HS : Hid (Hid (∀ W, Two w.heap.size w W a r (granting (new m) (k + 1)) (granting (new m) (k + 1)) → Two w.heap.size w W a r (ArenaPure.grant (granting (new m) k) 1).1 (ArenaPure.grant (granting (new m) k) 1).1)) := fun W h => h
      have e1 : granting (new m) (k + 1) = (ArenaPure.grant (granting (new m) k) 1).1 := rfl
      replace e1 := Lib.hid e1
      generalize granting (new m) k = s at H5 e1
      have dK0 := H5.out.grant 1
      have dK1 := Lib.hid dK0
      clear dK0
      go_wp2_with fail
      refine dK1.out.mono ?_
      rintro e w5 ⟨rfl, hnew, hc⟩
      have H6 := Lib.hid hnew
      clear hnew dK1 hc
      have dK0 := H6.out.rgrant 1
      have dK1 := Lib.hid dK0
      clear dK0
      go_wp2_with fail
      refine dK1.out.mono ?_
      rintro e w6 ⟨rfl, hnew, hc⟩
      have H7 := Lib.hid hnew
      clear hnew dK1 hc
      generalize (ArenaPure.grant s 1).2.1 = x at *
      generalize (ArenaPure.grant s 1).2.2 = y at *
      go_wp2_with fail
      go_roundg (10 - (k + 1))
      case measure => have := hg2.out; omega
      case rel => exact ⟨k + 1, rfl, rfl, by omega, by rw [e1.out]; exact H7.out⟩
    · have t1 : ¬ ((k : Int) + 1 < m) := by omega
      have e1 : k = m - 1 := by omega
      subst e1
      have HF : Hid (Two w.heap.size w wo a r (madeS m) (madeS m)) := H5.out
      clear H5 H0
      go_wp2_with fail
      go_loopg [16] 1 (fun g i wr => i = .int .i64 0 ∧ g = 1 ∧ wr = wo)
      case atStart => exact ⟨rfl, rfl, rfl⟩
      case round =>
        obtain ⟨rfl, hg, rfl⟩ := hrel
        clear hg hg2
        go_wp2_with fail
        go_ret3
        exact ⟨a, r, rfl, HF.out⟩
end Go.Proofs.Ytmffdlebahdihaa.Arena

/- The walk of chapter 06's Same at two rows of the same numbers. -/
namespace Go.Proofs.Ytmffdlebahdihaa.Mem
open Go Go.RowKit
set_option linter.unusedVariables false
set_option maxRecDepth 100000
theorem same06_calls {w : World} {l : List Int} {A B : Option Addr} {c d : Nat} (hA : Sl w .i64 A l) (hB : Sl w .i64 B l) (hl : l.length ≤ 1000000) :
    Calls Try.prog 21 #[.slice A l.length c, .slice B l.length d] w fun e w' => e = .returned (.bool true) ∧ Dr w w' := by
  replace hA := Lib.hid hA
  replace hB := Lib.hid hB
  obtain ⟨n, hn⟩ : ∃ n, l.length = n := ⟨_, rfl⟩
  rw [hn] at hl ⊢
  replace hn := Lib.hid hn
  go_enter Try.func21, Try.ntmps21
  go_wp2_with fail
  go_loopg [5] n (fun g i wr => ∃ k : Nat, i = .int .i64 k ∧ g = n - k ∧ k ≤ n ∧ Hid (Dr w wr))
  case atStart => exact ⟨0, rfl, rfl, by omega, Dr.refl w⟩
  case round =>
    obtain ⟨k, rfl, hg, hk, HD⟩ := hrel
    obtain ⟨wo, rfl⟩ : ∃ wo : World, wo = wr := ⟨_, rfl⟩
    replace hg := Lib.hid hg
    by_cases h1 : k < n
    · have h1' : (k : Int) < n := by omega
      have x1 : ∃ ad, A = some ad ∧ wo.cell? (ad.add k) = some (.int .i64 (l.getD k 0)) := by
        obtain ⟨ad, e, hc⟩ := hA.out k (by rw [hn.out]; exact h1)
        obtain ⟨q, rfl⟩ := HD.out
        exact ⟨ad, e, hc⟩
      have x2 : ∃ ad, B = some ad ∧ wo.cell? (ad.add k) = some (.int .i64 (l.getD k 0)) := by
        obtain ⟨ad, e, hc⟩ := hB.out k (by rw [hn.out]; exact h1)
        obtain ⟨q, rfl⟩ := HD.out
        exact ⟨ad, e, hc⟩
      obtain ⟨ad, rfl, c1⟩ := x1
      obtain ⟨bd, rfl, c2⟩ := x2
      generalize l.getD k 0 = x at c1 c2
      go_wp2_with fail
      go_quiet (fail)
      go_wp2_with fail
      go_roundg (n - (k + 1))
      case measure => have := hg.out; omega
      case rel => exact ⟨k + 1, rfl, rfl, by omega, HD.out.step _⟩
    · have h1' : ¬ ((k : Int) < n) := by omega
      go_wp2_with fail
      go_ret
      exact ⟨rfl, HD.out⟩
end Go.Proofs.Ytmffdlebahdihaa.Mem

/- Pieces of a row of the call's own: s[:n] and s[n:]. No program in sight. -/
namespace Go.Proofs.Ytmffdlebahdihaa.Mem
open Go Go.RowKit
set_option linter.unusedVariables false
theorem Sl.part {w : World} {k : IntKind} {A : Option Addr} {l : List Int} (h : Sl w k A l) (i n : Nat) (hn : i + n ≤ l.length) : Sl w k (A.map (·.add i)) ((l.drop i).take n) := by
  intro j hj
  have hj' : j < n := by rw [List.length_take, List.length_drop] at hj; omega
  obtain ⟨ad, rfl, hc⟩ := h (i + j) (by omega)
  refine ⟨ad.add i, rfl, ?_⟩
  rw [add_add, hc]
  congr 2
  rw [List.getD_eq_getElem?_getD, List.getD_eq_getElem?_getD, List.getElem?_take, if_pos hj', List.getElem?_drop]
theorem Own.nilc {w : World} {base : Nat} {e : TypeId} {k : IntKind} {A : Option Addr} {m c : Nat} {l : List Int} (h : Own w base e k (.slice A m c) l) : A = none → c = 0 := by
  rcases h.2 with ⟨e1, h0⟩ | ⟨g, cap, cur, e1, _, _, h1, _⟩
  · injection e1 with e2 e3 e4
    exact fun _ => e4
  · injection e1 with e2 e3 e4
    subst e2
    exact fun q => by cases q
/-- s[:n] -/
theorem slice_to {P : Program} {t : TypeId} (ht : P.underlying t = some (.slice (P.elem t))) (hz : ∀ W, (Go.sizeOf (P.elem t)).run P W = .ok 1 W) {w : World} {base : Nat} {e : TypeId} {k : IntKind} {A : Option Addr} {m c : Nat} {l : List Int}
    (h : Own w base e k (.slice A m c) l) (n : Nat) (hn : n ≤ l.length) : ∃ A' c', (∀ W, (Instr.sliceAt t (.slice A m c) none (some (.int .i64 n)) none).run P W = .ok (.slice A' n c') W) ∧ Sl w k A' (l.take n) ∧ (A' = none → c' = 0) := by
  have hs := h.sl
  have hcap : l.length ≤ c ∧ (A = none → c = 0) := by
    rcases h.2 with ⟨e1, h0⟩ | ⟨g, cap, cur, e1, _, _, h1, _⟩
    · injection e1 with e2 e3 e4
      subst e4
      exact ⟨by omega, fun _ => rfl⟩
    · injection e1 with e2 e3 e4
      subst e2 e4
      exact ⟨h1, fun q => by cases q⟩
  refine ⟨if c = 0 then A else A.map (·.add 0), c, fun W => ?_, ?_, fun q => ?_⟩
  · rw [run_sliceAt_slice W t _ _ _ _ ht, run_slice_h W t A m c ht .i64 n (by omega) (by omega), hz]
    show Result.ok (sliced A 0 ((n : Int)).toNat c 1) W = _
    have e1 : ((n : Int)).toNat = n := by omega
    rw [e1]
    unfold sliced
    simp
  · split
    · have : l.take n = [] := by
        have : n = 0 := by omega
        rw [this]; rfl
      rw [this]
      exact Sl.nil _ _ _
    · have := hs.part 0 n (by omega)
      rw [List.drop_zero] at this
      exact this
  · split at q
    · assumption
    · cases A with
      | none => exact hcap.2 rfl
      | some ad => cases q
/-- s[n:] -/
theorem slice_from {P : Program} {t : TypeId} (ht : P.underlying t = some (.slice (P.elem t))) (hz : ∀ W, (Go.sizeOf (P.elem t)).run P W = .ok 1 W) {w : World} {base : Nat} {e : TypeId} {k : IntKind} {A : Option Addr} {m c : Nat} {l : List Int}
    (h : Own w base e k (.slice A m c) l) (n q : Nat) (hq : n + q = l.length) : ∃ A' c', (∀ W, (Instr.sliceAt t (.slice A m c) (some (.int .i64 n)) none none).run P W = .ok (.slice A' q c') W) ∧ Sl w k A' (l.drop n) ∧ (A' = none → c' = 0) := by
  have hs := h.sl
  have hcap : m = l.length ∧ l.length ≤ c ∧ (A = none → c = 0) := by
    rcases h.2 with ⟨e1, h0⟩ | ⟨g, cap, cur, e1, _, _, h1, _⟩
    · injection e1 with e2 e3 e4
      subst e3 e4
      exact ⟨by omega, by omega, fun _ => rfl⟩
    · injection e1 with e2 e3 e4
      subst e2 e4
      exact ⟨e3, h1, fun q => by cases q⟩
  refine ⟨if c = n then A else A.map (·.add n), c - n, fun W => ?_, ?_, fun q => ?_⟩
  · rw [run_sliceAt_slice W t _ _ _ _ ht, run_slice_l W t A m c ht .i64 n (by omega) (by omega), hz]
    show Result.ok (sliced A ((n : Int)).toNat m c 1) W = _
    have e1 : ((n : Int)).toNat = n := by omega
    rw [e1]
    unfold sliced
    rw [Nat.mul_one, show m - n = q from by omega]
  · split
    · have : l.drop n = [] := List.drop_eq_nil_of_le (by omega)
      rw [this]
      exact Sl.nil _ _ _
    · have := hs.part n q (by omega)
      rw [List.take_of_length_le (by rw [List.length_drop]; omega)] at this
      exact this
  · split at q
    · omega
    · cases A with
      | none => have := hcap.2.2 rfl; omega
      | some ad => cases q
end Go.Proofs.Ytmffdlebahdihaa.Mem

/- Pieces of any row: s[n:], s[:n]. No program in sight. -/
namespace Go.Proofs.Ytmffdlebahdihaa.Mem
open Go Go.RowKit
set_option linter.unusedVariables false
/-- a slice value over numbers, wherever they lie -/
structure SlV (w : World) (k : IntKind) (v : Value) (l : List Int) : Prop where
  v : ∃ A c, v = .slice A l.length c ∧ Sl w k A l ∧ l.length ≤ c ∧ c ≤ maxLen ∧ (A = none → c = 0)
theorem SlV.of {w : World} {k : IntKind} {A : Option Addr} {n c : Nat} {l : List Int} (hs : Sl w k A l) (hn : n = l.length) (hc : n ≤ c) (hm : c ≤ maxLen) (h0 : A = none → c = 0) : SlV w k (.slice A n c) l := by
  subst hn; exact ⟨A, c, rfl, hs, hc, hm, h0⟩
theorem RowOf.slv {w : World} {k : IntKind} {A : Option Addr} {c b : Nat} {l : List Int} (h : RowOf w k A c l b) : SlV w k (.slice A l.length c) l := ⟨A, c, rfl, h.sl, h.cap, h.most, fun e => (h.nil e).2⟩
theorem Own.slv {w : World} {base : Nat} {e : TypeId} {k : IntKind} {v : Value} {l : List Int} (h : Own w base e k v l) : SlV w k v l := by
  obtain ⟨A, c, rfl⟩ := h.form
  refine ⟨A, c, rfl, h.sl, ?_, ?_, h.nilc⟩
  · rcases h.2 with ⟨e1, h0⟩ | ⟨g, cap, cur, e1, _, _, h1, h2, _⟩
    · injection e1 with e2 e3 e4; omega
    · injection e1 with e2 e3 e4; omega
  · rcases h.2 with ⟨e1, h0⟩ | ⟨g, cap, cur, e1, _, _, h1, h2, _⟩
    · injection e1 with e2 e3 e4; subst e4; exact Nat.zero_le _
    · injection e1 with e2 e3 e4; omega
theorem SlV.chg {w w' : World} {k : IntKind} {v : Value} {l : List Int} (h : SlV w k v l) (hc : Chg (fun _ => False) w w') : SlV w' k v l := by
  obtain ⟨A, c, e, h1, h2⟩ := h.v
  exact ⟨A, c, e, h1.chg hc fun _ _ => id, h2⟩
theorem SlV.later {w w' : World} {k : IntKind} {v : Value} {l : List Int} {B : Nat} (h : SlV w k v l) (hc : Chg (fun b => B ≤ b) w w') (hB : w.heap.size ≤ B) : SlV w' k v l := by
  obtain ⟨A, c, e, h1, h2⟩ := h.v
  exact ⟨A, c, e, h1.later hc hB, h2⟩
/-- s[n:] -/
theorem SlV.from {P : Program} {t : TypeId} (ht : P.underlying t = some (.slice (P.elem t))) (hz : ∀ W, (Go.sizeOf (P.elem t)).run P W = .ok 1 W) {w : World} {k : IntKind} {v : Value} {l : List Int}
    (h : SlV w k v l) (n : Nat) (hn : n ≤ l.length) : ∃ v', (∀ W, (Instr.sliceAt t v (some (.int .i64 n)) none none).run P W = .ok v' W) ∧ SlV w k v' (l.drop n) := by
  obtain ⟨A, c, rfl, hs, hc, hm, h0⟩ := h.v
  refine ⟨.slice (if c = n then A else A.map (·.add n)) (l.drop n).length (c - n), fun W => ?_, .of ?_ rfl ?_ (by omega) ?_⟩
  · rw [run_sliceAt_slice W t _ _ _ _ ht, run_slice_l W t A l.length c ht .i64 n (by omega) (by omega), hz]
    show Result.ok (sliced A ((n : Int)).toNat l.length c 1) W = _
    have e1 : ((n : Int)).toNat = n := by omega
    rw [e1]
    unfold sliced
    rw [Nat.mul_one, List.length_drop]
  · split
    · have : l.drop n = [] := List.drop_eq_nil_of_le (by omega)
      rw [this]
      exact Sl.nil _ _ _
    · have := hs.part n (l.length - n) (by omega)
      rw [List.take_of_length_le (by rw [List.length_drop]; omega)] at this
      exact this
  · rw [List.length_drop]; omega
  · intro q
    split at q
    · omega
    · cases A with
      | none => have := h0 rfl; omega
      | some ad => cases q
/-- s[:n] -/
theorem SlV.to {P : Program} {t : TypeId} (ht : P.underlying t = some (.slice (P.elem t))) (hz : ∀ W, (Go.sizeOf (P.elem t)).run P W = .ok 1 W) {w : World} {k : IntKind} {v : Value} {l : List Int}
    (h : SlV w k v l) (n : Nat) (hn : n ≤ l.length) : ∃ v', (∀ W, (Instr.sliceAt t v none (some (.int .i64 n)) none).run P W = .ok v' W) ∧ SlV w k v' (l.take n) := by
  obtain ⟨A, c, rfl, hs, hc, hm, h0⟩ := h.v
  refine ⟨.slice (if c = 0 then A else A.map (·.add 0)) n c, fun W => ?_, .of ?_ (by rw [List.length_take]; omega) (by omega) hm ?_⟩
  · rw [run_sliceAt_slice W t _ _ _ _ ht, run_slice_h W t A l.length c ht .i64 n (by omega) (by omega), hz]
    show Result.ok (sliced A 0 ((n : Int)).toNat c 1) W = _
    have e1 : ((n : Int)).toNat = n := by omega
    rw [e1]
    unfold sliced
    simp
  · split
    · have : l.take n = [] := by
        have : n = 0 := by omega
        rw [this]; rfl
      rw [this]
      exact Sl.nil _ _ _
    · have := hs.part 0 n (by omega)
      rw [List.drop_zero] at this
      exact this
  · intro q
    split at q
    · assumption
    · cases A with
      | none => exact h0 rfl
      | some ad => cases q
/-- s[n:] -/
theorem SlV.fromB {P : Program} {t : TypeId} (ht : P.underlying t = some (.slice (P.elem t))) (hz : ∀ W, (Go.sizeOf (P.elem t)).run P W = .ok 1 W) {w : World} {k : IntKind} {v : Value} {l : List Int}
    (h : SlV w k v l) (n : Nat) (hn : n ≤ l.length) : ∃ v', (∀ W, (Instr.sliceAt t v (some (.int .i64 n)) none none).run P W = .ok v' W) ∧ SlV w k v' (l.drop n) ∧ (∀ g, v'.ownBlock = some g → v.ownBlock = some g) := by
  obtain ⟨A, c, rfl, hs, hc, hm, h0⟩ := h.v
  refine ⟨.slice (if c = n then A else A.map (·.add n)) (l.drop n).length (c - n), fun W => ?_, .of ?_ rfl ?_ (by omega) ?_, fun g hg => ?_⟩
  · rw [run_sliceAt_slice W t _ _ _ _ ht, run_slice_l W t A l.length c ht .i64 n (by omega) (by omega), hz]
    show Result.ok (sliced A ((n : Int)).toNat l.length c 1) W = _
    have e1 : ((n : Int)).toNat = n := by omega
    rw [e1]
    unfold sliced
    rw [Nat.mul_one, List.length_drop]
  · split
    · have : l.drop n = [] := List.drop_eq_nil_of_le (by omega)
      rw [this]
      exact Sl.nil _ _ _
    · have := hs.part n (l.length - n) (by omega)
      rw [List.take_of_length_le (by rw [List.length_drop]; omega)] at this
      exact this
  · rw [List.length_drop]; omega
  · intro q
    split at q
    · omega
    · cases A with
      | none => have := h0 rfl; omega
      | some ad => cases q
  · split at hg
    · cases A with
      | none => cases hg
      | some ad => exact hg
    · cases A with
      | none => cases hg
      | some ad =>
        simp only [Value.ownBlock, Option.map_some] at hg ⊢
        rw [← hg, add_block]
/-- s[:n] -/
theorem SlV.toB {P : Program} {t : TypeId} (ht : P.underlying t = some (.slice (P.elem t))) (hz : ∀ W, (Go.sizeOf (P.elem t)).run P W = .ok 1 W) {w : World} {k : IntKind} {v : Value} {l : List Int}
    (h : SlV w k v l) (n : Nat) (hn : n ≤ l.length) : ∃ v', (∀ W, (Instr.sliceAt t v none (some (.int .i64 n)) none).run P W = .ok v' W) ∧ SlV w k v' (l.take n) ∧ (∀ g, v'.ownBlock = some g → v.ownBlock = some g) := by
  obtain ⟨A, c, rfl, hs, hc, hm, h0⟩ := h.v
  refine ⟨.slice (if c = 0 then A else A.map (·.add 0)) n c, fun W => ?_, .of ?_ (by rw [List.length_take]; omega) (by omega) hm ?_, fun g hg => ?_⟩
  · rw [run_sliceAt_slice W t _ _ _ _ ht, run_slice_h W t A l.length c ht .i64 n (by omega) (by omega), hz]
    show Result.ok (sliced A 0 ((n : Int)).toNat c 1) W = _
    have e1 : ((n : Int)).toNat = n := by omega
    rw [e1]
    unfold sliced
    simp
  · split
    · have : l.take n = [] := by
        have : n = 0 := by omega
        rw [this]; rfl
      rw [this]
      exact Sl.nil _ _ _
    · have := hs.part 0 n (by omega)
      rw [List.drop_zero] at this
      exact this
  · intro q
    split at q
    · assumption
    · cases A with
      | none => exact h0 rfl
      | some ad => cases q
  · split at hg
    · cases A with
      | none => cases hg
      | some ad => exact hg
    · cases A with
      | none => cases hg
      | some ad =>
        simp only [Value.ownBlock, Option.map_some] at hg ⊢
        rw [← hg, add_block]
/-- a slice whose row lies apart from what turned -/
theorem SlV.off {w w' : World} {k : IntKind} {v : Value} {l : List Int} {S : Nat → Prop} (h : SlV w k v l) (hc : Chg S w w') (ho : ∀ g, v.ownBlock = some g → ¬ S g) : SlV w' k v l := by
  obtain ⟨A, c, rfl, h1, h2⟩ := h.v
  exact ⟨A, c, rfl, h1.chg hc fun ad e => ho _ (by rw [e]; rfl), h2⟩
theorem add_zero (ad : Addr) : ad.add 0 = ad := by unfold Addr.add; rw [if_pos rfl]
end Go.Proofs.Ytmffdlebahdihaa.Mem

