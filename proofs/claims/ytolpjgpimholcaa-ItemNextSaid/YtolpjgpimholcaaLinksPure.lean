/- Chapters 08 and 09 in plain words: fields of a header; queues of items that are linked by their headers' fields. No program in sight. -/
import Derived.Test.YtolpjgpimholcaaArena2
namespace Go.Proofs.Ytolpjgpimholcaa.ArenaPure
open Go Go.RowKit Go.Proofs.Ytolpjgpimholcaa.Mem Go.Proofs.Ytolpjgpimholcaa.CodecPure Go.Proofs.Ytolpjgpimholcaa.Codec Go.Proofs.Ytolpjgpimholcaa.Arena
set_option linter.unusedVariables false
set_option maxRecDepth 100000

/-! ### fields of a header -/
/-- where a field lies in a header, and how wide it is -/
def fat (f : Int) : Int := if f < 4 then 4 * f else if f = 4 then 16 else if f < 7 then 4 * f + 4 else if f = 7 then 32 else 26 + f
def fw (f : Int) : Int := if f < 4 then 4 else if f = 4 then 8 else if f < 7 then 4 else if f = 7 then 2 else 1
def itemGet (s : St) (at_ f : Int) : Int × Int :=
  if f < 0 ∨ 11 < f ∨ f = 4 then (0, 6)
  else if at_ < 0 ∨ 1024 * (s.own.length : Int) < at_ then (0, 1)
  else if f ≤ 3 then place s (at_ + fat f) else number s (at_ + fat f) (fw f)
def itemSet (s : St) (at_ f v : Int) : St × Int :=
  if f < 0 ∨ 11 < f ∨ f = 4 then (s, 6)
  else if at_ < 0 ∨ 1024 * (s.own.length : Int) < at_ then (s, 1)
  else if f ≤ 3 then setPlace s (at_ + fat f) v
  else if v < 0 then (s, 6) else setNumber s (at_ + fat f) (fw f) v

/-! ### a place that is laid, and read -/
theorem splice_in (L X : List Int) (o a n : Nat) (h : o + X.length ≤ L.length) (h1 : o = a) (h2 : n = X.length) : ((splice L o X).drop a).take n = X := by
  subst h1 h2
  apply List.ext_getElem?
  intro i
  rw [List.getElem?_take]
  by_cases hi : i < X.length
  · rw [if_pos hi, List.getElem?_drop, splice_get _ _ _ h, if_pos (by omega), Nat.add_sub_cancel_left]
  · rw [if_neg hi, List.getElem?_eq_none (by omega)]
theorem splice_off (L X : List Int) (o a n : Nat) (h : o + X.length ≤ L.length) (hf : a + n ≤ o ∨ o + X.length ≤ a) : ((splice L o X).drop a).take n = (L.drop a).take n := by
  apply List.ext_getElem?
  intro i
  rw [List.getElem?_take, List.getElem?_take]
  by_cases hi : i < n
  · rw [if_pos hi, if_pos hi, List.getElem?_drop, List.getElem?_drop, splice_get _ _ _ h, if_neg (by omega)]
  · rw [if_neg hi, if_neg hi]
/-- a number that a place may be -/
def Pl (v : Int) : Prop := -1 ≤ v ∧ v ≤ 2147483647
theorem place_of (s : St) (x : Int) (h : within s x 4) : place s x = (if le (got s x 4) = 4294967295 then (-1, 0) else if le (got s x 4) ≥ 2147483648 then (0, 6) else (le (got s x 4), 0)) ∨ ¬ Ok s := by
  by_cases hs : Ok s
  · left
    have L := got_length hs h
    have e4 : (4 : Int).toNat = 4 := rfl
    unfold place
    rw [if_pos h]
    unfold getPlaceC
    rw [if_pos (show there (got s x 4).length 0 4 from ⟨.inr (.inr (.inl rfl)), by omega, by omega⟩)]
    have e : ((got s x 4).drop (0 : Int).toNat).take 4 = got s x 4 := by
      show (got s x 4).take 4 = _
      exact List.take_of_length_le (by omega)
    rw [e]
  · exact .inr hs
theorem place_eq {s : St} (hs : Ok s) {x : Int} (h : within s x 4) : place s x = (if le (got s x 4) = 4294967295 then (-1, 0) else if le (got s x 4) ≥ 2147483648 then (0, 6) else (le (got s x 4), 0)) :=
  (place_of s x h).resolve_right fun n => n hs
/-- the four bytes of a place -/
def pb4 (v : Int) : List Int := leb (v % 4294967296) 4
theorem pb4_length (v : Int) : (pb4 v).length = 4 := leb_length _ _
theorem pb4_bytes (v : Int) : Bytes (pb4 v) := leb_bytes _ _
theorem le_pb4 (v : Int) : le (pb4 v) = v % 4294967296 := by
  unfold pb4
  rw [le_leb]
  show v % 4294967296 % 4294967296 = _
  omega
/-- what lies where a place is read -/
theorem got_of_place {s : St} (hs : Ok s) {x v : Int} (h : within s x 4) (hp : place s x = (v, 0)) : got s x 4 = pb4 v ∧ Pl v := by
  rw [place_eq hs h] at hp
  have L := got_length hs h
  have e4 : (4 : Int).toNat = 4 := rfl
  have B := got_bytes hs x 4
  have R := le_range _ B
  have E := leb_le _ B
  rw [L, e4] at E R
  have p : (2 : Int) ^ (8 * 4) = 4294967296 := by decide +kernel
  rw [p] at R
  by_cases h1 : le (got s x 4) = 4294967295
  · rw [if_pos h1] at hp
    have : v = -1 := by injection hp with a _; exact a.symm
    subst this
    refine ⟨?_, by decide, by decide⟩
    rw [← E, h1]; rfl
  · rw [if_neg h1] at hp
    by_cases h2 : le (got s x 4) ≥ 2147483648
    · rw [if_pos h2] at hp
      injection hp with _ b
      exact absurd b (by decide)
    · rw [if_neg h2] at hp
      have : v = le (got s x 4) := by injection hp with a _; exact a.symm
      subst this
      refine ⟨?_, by omega, by omega⟩
      unfold pb4
      rw [Int.emod_eq_of_lt (by omega) (by omega)]
      exact E.symm
theorem place_of_got {s : St} (hs : Ok s) {x v : Int} (h : within s x 4) (hv : Pl v) (hg : got s x 4 = pb4 v) : place s x = (v, 0) := by
  rw [place_eq hs h, hg, le_pb4]
  obtain ⟨h1, h2⟩ := hv
  by_cases e : v = -1
  · subst e; rfl
  · rw [if_neg (by omega), if_neg (by omega)]
    congr 1
    omega
theorem setPlace_eq {s : St} (hs : Ok s) {x v : Int} (h : within s x 4) (hv : Pl v) : setPlace s x v = (lay s x (pb4 v), 0) := by
  have L := got_length hs h
  have e4 : (4 : Int).toNat = 4 := rfl
  unfold setPlace
  rw [if_pos h]
  have e : putPlaceC (got s x 4) 0 v = (pb4 v, 0) := by
    unfold putPlaceC
    rw [if_pos (show there (got s x 4).length 0 4 from ⟨.inr (.inr (.inl rfl)), by omega, by omega⟩), if_neg (by unfold Pl at hv; omega)]
    show (splice (got s x 4) 0 _, (0 : Int)) = _
    rw [splice_whole _ _ (by rw [leb_length]; omega)]; rfl
  rw [e]
theorem within_own {s t : St} (h : t.own = s.own) (x n : Int) : within t x n ↔ within s x n := by
  unfold within
  rw [h]
theorem within_part {s : St} {x n : Int} (h : within s x n) (k m : Int) (hk : 0 ≤ k) (hm : 0 ≤ m) (hf : k + m ≤ n) (h0 : 0 < m) : within s (x + k) m := by
  obtain ⟨h1, h2, h3, h4, h5⟩ := h
  have e : (x + k) / 1024 = x / 1024 := by omega
  have e2 : (x + k) % 1024 = x % 1024 + k := by omega
  exact ⟨hm, by omega, by omega, by rw [e]; exact h4, by omega⟩
/-- a state that differs from another one in nothing but bytes -/
structure Lay (s t : St) (S : Nat → Prop) : Prop where
  ok : Ok t
  own : t.own = s.own
  out : ∀ i, ¬ S i → t.B[i]? = s.B[i]?
theorem Lay.refl {s : St} (h : Ok s) (S : Nat → Prop) : Lay s s S := ⟨h, rfl, fun _ _ => rfl⟩
theorem Lay.trans {s t u : St} {S : Nat → Prop} (h : Lay s t S) (k : Lay t u S) : Lay s u S := ⟨k.ok, k.own.trans h.own, fun i hi => (k.out i hi).trans (h.out i hi)⟩
theorem Lay.mono {s t : St} {S T : Nat → Prop} (h : Lay s t S) (hst : ∀ i, S i → T i) : Lay s t T := ⟨h.ok, h.own, fun i hi => h.out i fun hs => hi (hst i hs)⟩
theorem Lay.len {s t : St} {S : Nat → Prop} (hs : Ok s) (h : Lay s t S) : t.B.length = s.B.length := by rw [h.ok.len, hs.len, h.own]
theorem Lay.within {s t : St} {S : Nat → Prop} (h : Lay s t S) (x n : Int) : within t x n ↔ ArenaPure.within s x n := within_own h.own x n
theorem Lay.got {s t : St} {S : Nat → Prop} (h : Lay s t S) (x n : Int) (hx : 0 ≤ x) (hf : ∀ i : Nat, x ≤ i → (i : Int) < x + n → ¬ S i) : got t x n = ArenaPure.got s x n := by
  unfold ArenaPure.got
  apply List.ext_getElem?
  intro i
  rw [List.getElem?_take, List.getElem?_take]
  by_cases hi : i < n.toNat
  · rw [if_pos hi, if_pos hi, List.getElem?_drop, List.getElem?_drop]
    exact h.out _ (hf _ (by omega) (by omega))
  · rw [if_neg hi, if_neg hi]
theorem Lay.place {s t : St} {S : Nat → Prop} (h : Lay s t S) (x : Int) (hx : 0 ≤ x) (hf : ∀ i : Nat, x ≤ i → (i : Int) < x + 4 → ¬ S i) : place t x = ArenaPure.place s x := by
  unfold ArenaPure.place
  have e := h.within x 4
  by_cases hw : ArenaPure.within s x 4
  · rw [if_pos hw, if_pos (e.2 hw), h.got x 4 hx hf]
  · rw [if_neg hw, if_neg fun q => hw (e.1 q)]
/-- a place that is laid -/
theorem lay_place {s : St} (hs : Ok s) {x v : Int} (h : within s x 4) (hv : Pl v) : Lay s (lay s x (pb4 v)) (fun i => x ≤ i ∧ (i : Int) < x + 4) ∧ place (lay s x (pb4 v)) x = (v, 0) := by
  have M := in_row hs h
  have e4 : (4 : Int).toNat = 4 := rfl
  have h0 := h.2.1
  have O := lay_ok hs (at_ := x) (l := pb4 v) (by rw [pb4_length]; omega) (pb4_bytes v)
  refine ⟨⟨O, rfl, fun i hi => ?_⟩, ?_⟩
  · show (splice s.B x.toNat (pb4 v))[i]? = _
    rw [splice_get _ _ _ (by rw [pb4_length]; omega), if_neg (by rw [pb4_length]; omega)]
  · refine place_of_got O ((within_own rfl x 4).2 h) hv ?_
    show ((splice s.B x.toNat (pb4 v)).drop x.toNat).take (4 : Int).toNat = _
    exact splice_in _ _ _ _ _ (by rw [pb4_length]; omega) rfl (by rw [pb4_length]; rfl)
/-- two states with the same pages are the same where the bytes are -/
theorem st_ext {s t : St} (ho : s.own = t.own) (hb : ∀ i : Nat, s.B[i]? = t.B[i]?) : s = t := by
  cases s; cases t
  simp only at ho hb
  subst ho
  congr 1
  exact List.ext_getElem? hb
/-- the same place, the same bytes -/
theorem same_bytes {s t : St} (hs : Ok s) (ht : Ok t) (ho : s.own = t.own) {x v : Int} (h : within s x 4) (h1 : place s x = (v, 0)) (h2 : place t x = (v, 0)) (i : Nat) (hi : x ≤ i ∧ (i : Int) < x + 4) : s.B[i]? = t.B[i]? := by
  have g1 := (got_of_place hs h h1).1
  have g2 := (got_of_place ht ((within_own ho x 4).1 h) h2).1
  have h0 := h.2.1
  have e : (ArenaPure.got s x 4)[i - x.toNat]? = (ArenaPure.got t x 4)[i - x.toNat]? := by rw [g1, g2]
  unfold ArenaPure.got at e
  have e4 : (4 : Int).toNat = 4 := rfl
  rw [List.getElem?_take, List.getElem?_take, if_pos (by omega), if_pos (by omega), List.getElem?_drop, List.getElem?_drop] at e
  have z : x.toNat + (i - x.toNat) = i := by omega
  rw [z] at e
  exact e

/-! ### queues -/
def Apart (x y : Int) : Prop := x + 40 ≤ y ∨ y + 40 ≤ x
theorem Apart.symm {x y : Int} (h : Apart x y) : Apart y x := h.elim .inr .inl
/-- the bytes of the two fields of x that link it -/
def Fld (x : Int) (i : Nat) : Prop := x + 4 ≤ i ∧ (i : Int) < x + 12
/-- from p on the items of L are linked, and n comes behind the last one -/
def Lseg (s : St) (p : Int) (L : List Int) (n : Int) : Prop := match L with
  | [] => True
  | x :: xs => place s (x + 4) = (p, 0) ∧ place s (x + 8) = (xs.headD n, 0) ∧ Lseg s x xs n
/-- L is a queue, the youngest first, linked by its items' fields -/
structure LI (s : St) (L : List Int) : Prop where
  ok : Ok s
  hdr : ∀ x ∈ L, within s x 40
  apart : L.Pairwise Apart
  seg : Lseg s (-1) L (-1)
theorem hdr_pl {s : St} (hs : Ok s) {x : Int} (hh : within s x 40) : Pl x ∧ 0 ≤ x := by
  have := hs.high
  obtain ⟨_, h1, h2, _⟩ := hh
  unfold Pl
  omega
theorem LI.pl {s : St} {L : List Int} (h : LI s L) {x : Int} (hx : x ∈ L) : Pl x ∧ 0 ≤ x := hdr_pl h.ok (h.hdr x hx)
theorem LI.nodup {s : St} {L : List Int} (h : LI s L) : L.Nodup := h.apart.imp fun {a b} hab e => by subst e; unfold Apart at hab; omega
theorem hdr4 {s : St} {x : Int} (h : within s x 40) : within s (x + 4) 4 := within_part h 4 4 (by decide) (by decide) (by decide) (by decide)
theorem hdr8 {s : St} {x : Int} (h : within s x 40) : within s (x + 8) 4 := within_part h 8 4 (by decide) (by decide) (by decide) (by decide)
/-- a place set -/
def sp (s : St) (y v : Int) : St := (setPlace s y v).1
theorem sp_spec {s : St} (hs : Ok s) {y v : Int} (h : within s y 4) (hv : Pl v) : setPlace s y v = (sp s y v, 0) ∧ Lay s (sp s y v) (fun i => y ≤ i ∧ (i : Int) < y + 4) ∧ place (sp s y v) y = (v, 0) := by
  have e := setPlace_eq hs h hv
  have l := lay_place hs h hv
  unfold sp
  rw [e]
  exact ⟨rfl, l⟩
theorem seg_append (s : St) (A : List Int) : ∀ (p : Int) (C : List Int) (n : Int), Lseg s p (A ++ C) n ↔ Lseg s p A (C.headD n) ∧ Lseg s (A.getLastD p) C n := by
  induction A with
  | nil => intro p C n; simp [Lseg]
  | cons x xs ih =>
    intro p C n
    simp only [List.cons_append, Lseg, ih]
    have e : (xs ++ C).headD n = xs.headD (C.headD n) := by cases xs <;> simp
    have e2 : (x :: xs).getLastD p = xs.getLastD x := List.getLastD_cons
    rw [e, e2]
    constructor
    · rintro ⟨h1, h2, h3, h4⟩; exact ⟨⟨h1, h2, h3⟩, h4⟩
    · rintro ⟨⟨h1, h2, h3⟩, h4⟩; exact ⟨h1, h2, h3, h4⟩
theorem seg_frame {s t : St} {S : Nat → Prop} (h : Lay s t S) : ∀ (L : List Int) (p n : Int), (∀ x ∈ L, 0 ≤ x) → (∀ x ∈ L, ∀ i, Fld x i → ¬ S i) → Lseg s p L n → Lseg t p L n := by
  intro L
  induction L with
  | nil => intros; trivial
  | cons x xs ih =>
    intro p n h0 hS hl
    have hx := h0 x (by simp)
    have hSx := hS x (by simp)
    refine ⟨?_, ?_, ih x n (fun y hy => h0 y (by simp [hy])) (fun y hy => hS y (by simp [hy])) hl.2.2⟩
    · rw [h.place (x + 4) (by omega) fun i h1 h2 => hSx i ⟨h1, by omega⟩]; exact hl.1
    · rw [h.place (x + 8) (by omega) fun i h1 h2 => hSx i ⟨by omega, by omega⟩]; exact hl.2.1
theorem Apart.flds {x y : Int} (h : Apart x y) (i : Nat) (hi : Fld x i) : ¬ Fld y i := fun hy => by unfold Fld at *; unfold Apart at h; omega
/-- the same items, before and behind, with another next one: only the last item's field is set -/
theorem seg_next {s : St} (hs : Ok s) (A : List Int) (y p n m : Int) (hh : ∀ x ∈ A ++ [y], within s x 40) (ha : (A ++ [y]).Pairwise Apart) (hm : Pl m) (hl : Lseg s p (A ++ [y]) n) :
    Lseg (sp s (y + 8) m) p (A ++ [y]) m := by
  have hy := hh y (by simp)
  obtain ⟨_, k, e⟩ := sp_spec hs (hdr8 hy) hm
  have z := (hdr_pl hs hy).2
  rw [seg_append] at hl ⊢
  refine ⟨?_, ?_⟩
  · have hl1 : Lseg s p A y := hl.1
    show Lseg _ p A y
    refine seg_frame k A p y (fun x hx => (hdr_pl hs (hh x (by simp [hx]))).2) (fun x hx i hi => ?_) hl1
    have hap : Apart x y := (List.pairwise_append.1 ha).2.2 x hx y (by simp)
    unfold Fld at hi; unfold Apart at hap; omega
  · obtain ⟨h1, _, _⟩ := hl.2
    refine ⟨?_, e, trivial⟩
    rw [k.place (y + 4) (by omega) fun i h1 h2 => by omega]; exact h1
/-- .. with another one ahead: only the first item's field is set -/
theorem seg_prev {s : St} (hs : Ok s) (C : List Int) (y p q n : Int) (hh : ∀ x ∈ y :: C, within s x 40) (ha : (y :: C).Pairwise Apart) (hq : Pl q) (hl : Lseg s p (y :: C) n) :
    Lseg (sp s (y + 4) q) q (y :: C) n := by
  have hy := hh y (by simp)
  obtain ⟨_, k, e⟩ := sp_spec hs (hdr4 hy) hq
  have z := (hdr_pl hs hy).2
  obtain ⟨_, h2, h3⟩ := hl
  refine ⟨e, ?_, ?_⟩
  · rw [k.place (y + 8) (by omega) fun i h1 h2 => by omega]; exact h2
  · refine seg_frame k C y n (fun x hx => (hdr_pl hs (hh x (by simp [hx]))).2) (fun x hx i hi => ?_) h3
    have hap : Apart y x := (List.pairwise_cons.1 ha).1 x hx
    unfold Fld at hi; unfold Apart at hap; omega
theorem Lay.hdr {s t : St} {S : Nat → Prop} (h : Lay s t S) {x : Int} (hx : ArenaPure.within s x 40) : ArenaPure.within t x 40 := (h.within x 40).2 hx
/-- an item laid in between A and C -/
def putS (s : St) (prev at_ after : Int) : St :=
  let s1 := if prev = -1 then s else sp s (prev + 8) at_
  let s2 := sp s1 (at_ + 4) prev
  let s3 := sp s2 (at_ + 8) after
  if after = -1 then s3 else sp s3 (after + 4) at_
/-- the fields of all items of L -/
def Flds (L : List Int) (i : Nat) : Prop := ∃ x ∈ L, Fld x i
theorem put_seg {s : St} {A C : List Int} {at_ : Int} (h : LI s (A ++ C)) (hat : within s at_ 40) (hap : ∀ x ∈ A ++ C, Apart x at_) :
    LI (putS s (A.getLastD (-1)) at_ (C.headD (-1))) (A ++ at_ :: C) ∧ Lay s (putS s (A.getLastD (-1)) at_ (C.headD (-1))) (Flds (A ++ at_ :: C)) := by
  have hs := h.ok
  have hsg := (seg_append s A (-1) C (-1)).1 h.seg
  obtain ⟨pA, pC, pAC⟩ := List.pairwise_append.1 h.apart
  have pat := (hdr_pl hs hat)
  -- the item ahead
  obtain ⟨s1, e1, k1, g1, g1'⟩ : ∃ s1, (if A.getLastD (-1) = -1 then s else sp s (A.getLastD (-1) + 8) at_) = s1 ∧ Lay s s1 (Flds A) ∧ Lseg s1 (-1) A at_ ∧ Lseg s1 (A.getLastD (-1)) C (-1) := by
    rcases List.eq_nil_or_concat A with rfl | ⟨A', y, rfl⟩
    · exact ⟨s, rfl, Lay.refl hs _, trivial, hsg.2⟩
    · rw [List.concat_eq_append] at *
      have el : (A' ++ [y]).getLastD (-1) = y := by simp
      have hy := h.hdr y (by simp)
      have py := hdr_pl hs hy
      rw [el] at hsg ⊢
      have ne : y ≠ -1 := by omega
      refine ⟨_, if_neg ne, ?_, seg_next hs A' y (-1) _ at_ (fun x hx => h.hdr x (by simp at hx ⊢; rcases hx with hx | hx <;> simp [hx])) pA pat.1 hsg.1, ?_⟩
      · exact (sp_spec hs (hdr8 hy) pat.1).2.1.mono fun i hi => ⟨y, by simp, by unfold Fld; omega⟩
      · refine seg_frame (sp_spec hs (hdr8 hy) pat.1).2.1 C y (-1) (fun x hx => (hdr_pl hs (h.hdr x (by simp [hx]))).2) (fun x hx i hi => ?_) hsg.2
        have := pAC y (by simp) x hx
        unfold Apart at this; unfold Fld at hi; omega
  have hs1 := k1.ok
  have plp : Pl (A.getLastD (-1)) := by
    rcases List.eq_nil_or_concat A with rfl | ⟨A', y, rfl⟩
    · exact ⟨by decide, by decide⟩
    · rw [List.concat_eq_append] at *
      have el : (A' ++ [y]).getLastD (-1) = y := by simp
      rw [el]; exact (hdr_pl hs (h.hdr y (by simp))).1
  have pla : Pl (C.headD (-1)) := by
    cases C with
    | nil => exact ⟨by decide, by decide⟩
    | cons z C' => exact (hdr_pl hs (h.hdr z (by simp))).1
  -- the item's own fields
  have w1 := k1.hdr hat
  obtain ⟨_, k2, q2⟩ := sp_spec hs1 (hdr4 w1) plp
  have w2 := k2.hdr w1
  obtain ⟨_, k3, q3⟩ := sp_spec k2.ok (hdr8 w2) pla
  obtain ⟨s2, e2⟩ : ∃ s2, sp s1 (at_ + 4) (A.getLastD (-1)) = s2 := ⟨_, rfl⟩
  rw [e2] at k2 q2 k3 q3
  obtain ⟨s3, e3⟩ : ∃ s3, sp s2 (at_ + 8) (C.headD (-1)) = s3 := ⟨_, rfl⟩
  rw [e3] at k3 q3
  have k13 : Lay s1 s3 (Fld at_) := (k2.mono fun i hi => by unfold Fld; omega).trans (k3.mono fun i hi => by unfold Fld; omega)
  have r4 : place s3 (at_ + 4) = (A.getLastD (-1), 0) := by rw [k3.place (at_ + 4) (by omega) fun i h1 h2 => by omega]; exact q2
  have far : ∀ x ∈ A ++ C, ∀ i, Fld x i → ¬ Fld at_ i := fun x hx i hi => (hap x hx).flds i hi
  have gA : Lseg s3 (-1) A at_ := seg_frame k13 A _ _ (fun x hx => (hdr_pl hs (h.hdr x (by simp [hx]))).2) (fun x hx => far x (by simp [hx])) g1
  have gC : Lseg s3 (A.getLastD (-1)) C (-1) := seg_frame k13 C _ _ (fun x hx => (hdr_pl hs (h.hdr x (by simp [hx]))).2) (fun x hx => far x (by simp [hx])) g1'
  have k03 : Lay s s3 (Flds (A ++ at_ :: C)) := (k1.mono fun i ⟨x, hx, hi⟩ => ⟨x, by simp [hx], hi⟩).trans (k13.mono fun i hi => ⟨at_, by simp, hi⟩)
  have hall : ∀ x ∈ A ++ at_ :: C, within s x 40 := fun x hx => by
    simp only [List.mem_append, List.mem_cons] at hx
    rcases hx with hx | rfl | hx
    · exact h.hdr x (by simp [hx])
    · exact hat
    · exact h.hdr x (by simp [hx])
  have pall : (A ++ at_ :: C).Pairwise Apart := by
    refine List.pairwise_append.2 ⟨pA, List.pairwise_cons.2 ⟨fun x hx => (hap x (by simp [hx])).symm, pC⟩, fun x hx y hy => ?_⟩
    simp only [List.mem_cons] at hy
    rcases hy with rfl | hy
    · exact hap x (by simp [hx])
    · exact pAC x hx y hy
  have main : putS s (A.getLastD (-1)) at_ (C.headD (-1)) = if C.headD (-1) = -1 then s3 else sp s3 (C.headD (-1) + 4) at_ := by
    unfold putS
    simp only
    rw [e1, e2, e3]
  rw [main]
  cases C with
  | nil =>
    have en : ([] : List Int).headD (-1) = -1 := rfl
    rw [if_pos en]
    refine ⟨⟨k03.ok, fun x hx => k03.hdr (hall x hx), pall, ?_⟩, k03⟩
    rw [seg_append]
    exact ⟨gA, r4, q3, trivial⟩
  | cons z C' =>
    have hz := h.hdr z (by simp)
    have pz := hdr_pl hs hz
    have ez : (z :: C').headD (-1) = z := rfl
    rw [ez] at q3 ⊢
    rw [if_neg (by omega)]
    have wz := k03.hdr hz
    obtain ⟨_, k4, q4⟩ := sp_spec k03.ok (hdr4 wz) pat.1
    have apz : Apart z at_ := hap z (by simp)
    have k04 := k03.trans (k4.mono fun i hi => ⟨z, by simp, by unfold Fld; omega⟩)
    refine ⟨⟨k4.ok, fun x hx => k04.hdr (hall x hx), pall, ?_⟩, k04⟩
    rw [seg_append]
    refine ⟨?_, ?_, ?_, ?_⟩
    · refine seg_frame k4 A _ _ (fun x hx => (hdr_pl hs (h.hdr x (by simp [hx]))).2) (fun x hx i hi => ?_) gA
      have := pAC x hx z (by simp)
      unfold Apart at this; unfold Fld at hi; omega
    · rw [k4.place (at_ + 4) (by omega) fun i h1 h2 => by unfold Apart at apz; omega]; exact r4
    · rw [k4.place (at_ + 8) (by omega) fun i h1 h2 => by unfold Apart at apz; omega]; exact q3
    · exact seg_prev k03.ok C' z _ at_ (-1) (fun x hx => k03.hdr (h.hdr x (by simp at hx ⊢; rcases hx with hx | hx <;> simp [hx]))) pC pat.1 gC
/-- an item taken out from in between -/
def delS (s : St) (prev at_ after : Int) : St :=
  let s1 := if prev = -1 then s else sp s (prev + 8) after
  let s2 := if after = -1 then s1 else sp s1 (after + 4) prev
  sp (sp s2 (at_ + 4) (-1)) (at_ + 8) (-1)
theorem del_seg {s : St} {A C : List Int} {at_ : Int} (h : LI s (A ++ at_ :: C)) :
    LI (delS s (A.getLastD (-1)) at_ (C.headD (-1))) (A ++ C) ∧ Lay s (delS s (A.getLastD (-1)) at_ (C.headD (-1))) (Flds (A ++ at_ :: C)) ∧
      place (delS s (A.getLastD (-1)) at_ (C.headD (-1))) (at_ + 4) = (-1, 0) ∧ place (delS s (A.getLastD (-1)) at_ (C.headD (-1))) (at_ + 8) = (-1, 0) := by
  have hs := h.ok
  have hat := h.hdr at_ (by simp)
  have hsg := (seg_append s A (-1) (at_ :: C) (-1)).1 h.seg
  obtain ⟨pA, pC0, pAC0⟩ := List.pairwise_append.1 h.apart
  obtain ⟨pc, pC⟩ := List.pairwise_cons.1 pC0
  have pAC : ∀ x ∈ A, ∀ y ∈ C, Apart x y := fun x hx y hy => pAC0 x hx y (by simp [hy])
  have hap : ∀ x ∈ A ++ C, Apart x at_ := fun x hx => by
    rcases List.mem_append.1 hx with hx | hx
    · exact pAC0 x hx at_ (by simp)
    · exact (pc x hx).symm
  have pat := hdr_pl hs hat
  have hm1 : Pl (-1) := ⟨by decide, by decide⟩
  have pla : Pl (C.headD (-1)) := by
    cases C with
    | nil => exact hm1
    | cons z C' => exact (hdr_pl hs (h.hdr z (by simp))).1
  have plp : Pl (A.getLastD (-1)) := by
    rcases List.eq_nil_or_concat A with rfl | ⟨A', y, rfl⟩
    · exact hm1
    · rw [List.concat_eq_append] at *
      have el : (A' ++ [y]).getLastD (-1) = y := by simp
      rw [el]; exact (hdr_pl hs (h.hdr y (by simp))).1
  have hsC : Lseg s at_ C (-1) := hsg.2.2.2
  obtain ⟨s1, e1, k1, g1, g1'⟩ : ∃ s1, (if A.getLastD (-1) = -1 then s else sp s (A.getLastD (-1) + 8) (C.headD (-1))) = s1 ∧ Lay s s1 (Flds A) ∧ Lseg s1 (-1) A (C.headD (-1)) ∧ Lseg s1 at_ C (-1) := by
    rcases List.eq_nil_or_concat A with rfl | ⟨A', y, rfl⟩
    · exact ⟨s, rfl, Lay.refl hs _, trivial, hsC⟩
    · rw [List.concat_eq_append] at *
      have el : (A' ++ [y]).getLastD (-1) = y := by simp
      have hy := h.hdr y (by simp)
      have py := hdr_pl hs hy
      rw [el]
      have ne : y ≠ -1 := by omega
      refine ⟨_, if_neg ne, ?_, seg_next hs A' y (-1) _ _ (fun x hx => h.hdr x (by simp at hx ⊢; rcases hx with hx | hx <;> simp [hx])) pA pla hsg.1, ?_⟩
      · exact (sp_spec hs (hdr8 hy) pla).2.1.mono fun i hi => ⟨y, by simp, by unfold Fld; omega⟩
      · refine seg_frame (sp_spec hs (hdr8 hy) pla).2.1 C at_ (-1) (fun x hx => (hdr_pl hs (h.hdr x (by simp [hx]))).2) (fun x hx i hi => ?_) hsC
        have := pAC y (by simp) x hx
        unfold Apart at this; unfold Fld at hi; omega
  obtain ⟨s2, e2, k2, g2, g2'⟩ : ∃ s2, (if C.headD (-1) = -1 then s1 else sp s1 (C.headD (-1) + 4) (A.getLastD (-1))) = s2 ∧ Lay s1 s2 (Flds C) ∧ Lseg s2 (-1) A (C.headD (-1)) ∧ Lseg s2 (A.getLastD (-1)) C (-1) := by
    cases C with
    | nil => exact ⟨s1, rfl, Lay.refl k1.ok _, g1, trivial⟩
    | cons z C' =>
      have hz := k1.hdr (h.hdr z (by simp))
      have pz := hdr_pl hs (h.hdr z (by simp))
      have ez : (z :: C').headD (-1) = z := rfl
      rw [ez] at g1 ⊢
      have kz := (sp_spec k1.ok (hdr4 hz) plp).2.1
      refine ⟨_, if_neg (by omega), kz.mono fun i hi => ⟨z, by simp, by unfold Fld; omega⟩, ?_, seg_prev k1.ok C' z _ _ (-1) (fun x hx => k1.hdr (h.hdr x (by simp at hx ⊢; rcases hx with hx | hx <;> simp [hx]))) pC plp g1'⟩
      refine seg_frame kz A _ _ (fun x hx => (hdr_pl hs (h.hdr x (by simp [hx]))).2) (fun x hx i hi => ?_) g1
      have := pAC x hx z (by simp)
      unfold Apart at this; unfold Fld at hi; omega
  have w2 := k2.hdr (k1.hdr hat)
  obtain ⟨_, k3, q3⟩ := sp_spec k2.ok (hdr4 w2) hm1
  have w3 := k3.hdr w2
  obtain ⟨_, k4, q4⟩ := sp_spec k3.ok (hdr8 w3) hm1
  have main : delS s (A.getLastD (-1)) at_ (C.headD (-1)) = sp (sp s2 (at_ + 4) (-1)) (at_ + 8) (-1) := by
    unfold delS
    simp only
    rw [e1, e2]
  rw [main]
  have k24 : Lay s2 (sp (sp s2 (at_ + 4) (-1)) (at_ + 8) (-1)) (Fld at_) := (k3.mono fun i hi => by unfold Fld; omega).trans (k4.mono fun i hi => by unfold Fld; omega)
  have k02 : Lay s s2 (Flds (A ++ at_ :: C)) := (k1.mono fun i ⟨x, hx, hi⟩ => ⟨x, by simp [hx], hi⟩).trans (k2.mono fun i ⟨x, hx, hi⟩ => ⟨x, by simp [hx], hi⟩)
  have k04 := k02.trans (k24.mono fun i hi => ⟨at_, by simp, hi⟩)
  have far : ∀ x ∈ A ++ C, ∀ i, Fld x i → ¬ Fld at_ i := fun x hx i hi => (hap x hx).flds i hi
  refine ⟨⟨k04.ok, fun x hx => k04.hdr (h.hdr x ?_), List.pairwise_append.2 ⟨pA, pC, pAC⟩, ?_⟩, k04, ?_, q4⟩
  · rcases List.mem_append.1 hx with hx | hx <;> simp [hx]
  · rw [seg_append]
    exact ⟨seg_frame k24 A _ _ (fun x hx => (hdr_pl hs (h.hdr x (by simp [hx]))).2) (fun x hx => far x (by simp [hx])) g2, seg_frame k24 C _ _ (fun x hx => (hdr_pl hs (h.hdr x (by simp [hx]))).2) (fun x hx => far x (by simp [hx])) g2'⟩
  · rw [k4.place (at_ + 4) (by omega) fun i h1 h2 => by omega]; exact q3
/-- the two fields of one item of a queue -/
theorem LI.fields {s : St} {A C : List Int} {x : Int} (h : LI s (A ++ x :: C)) : place s (x + 4) = (A.getLastD (-1), 0) ∧ place s (x + 8) = (C.headD (-1), 0) := by
  have := ((seg_append s A (-1) (x :: C) (-1)).1 h.seg).2
  exact ⟨this.1, this.2.1⟩

end Go.Proofs.Ytolpjgpimholcaa.ArenaPure
