/- Chapter 08 in plain words: bytes laid one behind another, an item laid into chunks. No program in sight. -/
import Derived.Test.YtolpjgpimholcaaLinksPure
import Derived.Test.YtolpjgpimholcaaNeedPure
namespace Go.Proofs.Ytolpjgpimholcaa.ArenaPure
open Go Go.RowKit Go.Proofs.Ytolpjgpimholcaa.Mem Go.Proofs.Ytolpjgpimholcaa.CodecPure Go.Proofs.Ytolpjgpimholcaa.Codec Go.Proofs.Ytolpjgpimholcaa.Arena Go.Proofs.Ytolpjgpimholcaa.NeedPure
set_option linter.unusedVariables false
set_option maxRecDepth 100000
/-! ### bytes laid, one row after another -/
def lays (s : St) : List (Int × List Int) → St
  | [] => s
  | o :: l => lays (lay s o.1 o.2) l
theorem lays_append (s : St) (l m : List (Int × List Int)) : lays s (l ++ m) = lays (lays s l) m := by
  induction l generalizing s with
  | nil => rfl
  | cons o l ih => exact ih _
/-- two ranges without a byte in common -/
def Off (o p : Int × List Int) : Prop := o.1 + o.2.length ≤ p.1 ∨ p.1 + p.2.length ≤ o.1
theorem Off.symm {o p : Int × List Int} (h : Off o p) : Off p o := h.elim .inr .inl
structure Good (s : St) (l : List (Int × List Int)) : Prop where
  ok : Ok s
  inn : ∀ o ∈ l, within s o.1 o.2.length ∧ Bytes o.2
theorem lay_own (s : St) (x : Int) (X : List Int) : (lay s x X).own = s.own := rfl
theorem Good.step {s : St} {o : Int × List Int} {l : List (Int × List Int)} (h : Good s (o :: l)) : Good (lay s o.1 o.2) l := by
  obtain ⟨h1, h2⟩ := h.inn o (by simp)
  have hr := in_row h.ok h1
  refine ⟨lay_ok h.ok (by omega) h2, fun p hp => ?_⟩
  obtain ⟨k1, k2⟩ := h.inn p (by simp [hp])
  exact ⟨(within_own (lay_own s o.1 o.2) _ _).2 k1, k2⟩
theorem lays_own (l : List (Int × List Int)) : ∀ s, (lays s l).own = s.own := by
  induction l with
  | nil => intro s; rfl
  | cons o l ih => intro s; show (lays (lay s o.1 o.2) l).own = _; rw [ih]; rfl
theorem Good.lays {s : St} {l : List (Int × List Int)} (h : Good s l) : Ok (lays s l) := by
  induction l generalizing s with
  | nil => exact h.ok
  | cons o l ih => exact ih h.step
theorem Good.left {s : St} {l m : List (Int × List Int)} (h : Good s (l ++ m)) : Good s l := ⟨h.ok, fun o ho => h.inn o (by simp [ho])⟩
theorem Good.right {s : St} {l m : List (Int × List Int)} (h : Good s (l ++ m)) : Good (ArenaPure.lays s l) m :=
  ⟨h.left.lays, fun o ho => by
    obtain ⟨k1, k2⟩ := h.inn o (by simp [ho])
    exact ⟨(within_own (lays_own l s) _ _).2 k1, k2⟩⟩
/-- what is laid is got -/
theorem got_lay {s : St} (hs : Ok s) {x : Int} {X : List Int} (h : within s x X.length) : got (lay s x X) x X.length = X := by
  have := in_row hs h
  exact splice_in _ _ _ _ _ (by omega) rfl (by omega)
/-- what lies beside stays -/
theorem got_lay_off {s : St} (hs : Ok s) {x y n : Int} {X : List Int} (h : within s x X.length) (hy : 0 ≤ y) (hn : 0 ≤ n) (hf : y + n ≤ x ∨ x + X.length ≤ y) : got (lay s x X) y n = got s y n := by
  have h0 := h.2.1
  have := in_row hs h
  exact splice_off _ _ _ _ _ (by omega) (by omega)
theorem lays_off {s : St} {l : List (Int × List Int)} (h : Good s l) {y n : Int} (hy : 0 ≤ y) (hn : 0 ≤ n) (hf : ∀ o ∈ l, y + n ≤ o.1 ∨ o.1 + o.2.length ≤ y) : got (lays s l) y n = got s y n := by
  induction l generalizing s with
  | nil => rfl
  | cons o l ih =>
    show got (lays (lay s o.1 o.2) l) y n = _
    rw [ih h.step fun p hp => hf p (by simp [hp])]
    exact got_lay_off h.ok (h.inn o (by simp)).1 hy hn (hf o (by simp))
/-- what was laid, and not laid over, is got -/
theorem lays_in {s : St} {l m : List (Int × List Int)} {x : Int} {X : List Int} (h : Good s (l ++ (x, X) :: m)) (hf : ∀ o ∈ m, x + X.length ≤ o.1 ∨ o.1 + o.2.length ≤ x) : got (lays s (l ++ (x, X) :: m)) x X.length = X := by
  rw [lays_append]
  have h1 := h.right
  have h2 := h1.inn (x, X) (by simp)
  show got (lays (lay (lays s l) x X) m) x X.length = X
  rw [lays_off h1.step h2.1.2.1 (by omega) hf]
  exact got_lay h1.ok h2.1
/-- a piece of what was laid -/
theorem got_part (s : St) {x n k m : Int} (hx : 0 ≤ x) (hk : 0 ≤ k) (hm : 0 ≤ m) (hf : k + m ≤ n) : got s (x + k) m = ((got s x n).drop k.toNat).take m.toNat := by
  unfold got
  apply List.ext_getElem?
  intro i
  rw [List.getElem?_take, List.getElem?_take]
  by_cases hi : i < m.toNat
  · rw [if_pos hi, if_pos hi, List.getElem?_drop, List.getElem?_drop, List.getElem?_take, if_pos (by omega), List.getElem?_drop]
    congr 1; omega
  · rw [if_neg hi, if_neg hi]
theorem lay_nil (s : St) (x : Int) : lay s x [] = s := by
  unfold lay
  rw [splice_none]
theorem write_lay (s : St) (x : Int) (X : List Int) (h : within s x X.length) : (write s x X).1 = lay s x X := by unfold write; rw [if_pos h]
theorem setNumber_lay {s : St} (hs : Ok s) {x w v : Int} (h : within s x w) (hw : w = 1 ∨ w = 2 ∨ w = 4 ∨ w = 8) (hv : 0 ≤ v ∧ v < 2 ^ (8 * w.toNat)) : setNumber s x w v = (lay s x (leb v w.toNat), 0) := by
  have L := got_length hs h
  unfold setNumber
  rw [if_pos h]
  obtain ⟨n, rfl⟩ := Int.eq_ofNat_of_zero_le (show 0 ≤ w by omega)
  have en : ((n : Int)).toNat = n := by omega
  rw [en] at hv L ⊢
  rw [putC_all (got s x n) n v hw L (by
    rintro ⟨_, h2⟩
    exact h2 (Int.ediv_eq_zero_of_lt hv.1 hv.2))]
theorem setPlace_lay {s : St} (hs : Ok s) {x v : Int} (h : within s x 4) (hv : Pl v) : setPlace s x v = (lay s x (pb4 v), 0) := setPlace_eq hs h hv
end Go.Proofs.Ytolpjgpimholcaa.ArenaPure
