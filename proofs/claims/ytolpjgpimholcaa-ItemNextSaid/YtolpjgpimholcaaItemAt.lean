/- Chapter 08 in plain words: an item as it lies in its chunks. No program in sight. -/
import Derived.Test.YtolpjgpimholcaaItemPure
namespace Go.Proofs.Ytolpjgpimholcaa.ArenaPure
open Go Go.RowKit Go.Proofs.Ytolpjgpimholcaa.Mem Go.Proofs.Ytolpjgpimholcaa.CodecPure Go.Proofs.Ytolpjgpimholcaa.Codec Go.Proofs.Ytolpjgpimholcaa.Arena Go.Proofs.Ytolpjgpimholcaa.NeedPure
set_option linter.unusedVariables false
set_option maxRecDepth 100000
/-- the bytes of a field -/
def fb (f v : Int) : List Int := if f ≤ 3 then pb4 v else leb v (fw f).toNat
/-- may a field be so? -/
def Fits (f v : Int) : Prop := if f ≤ 3 then Pl v else 0 ≤ v ∧ v < 2 ^ (8 * (fw f).toNat)
theorem fw_cases {f : Int} (h0 : 0 ≤ f) (h1 : f ≤ 11) (h4 : f ≠ 4) : fw f = 1 ∨ fw f = 2 ∨ fw f = 4 := by unfold fw; split <;> (try split) <;> (try split) <;> (try split) <;> omega
theorem fat_in {f : Int} (h0 : 0 ≤ f) (h1 : f ≤ 11) : 0 ≤ fat f ∧ fat f + fw f ≤ 38 ∧ 0 < fw f := by unfold fat fw; split <;> (try split) <;> (try split) <;> (try split) <;> omega
theorem fat_off {f g : Int} (h0 : 0 ≤ f) (h1 : f ≤ 11) (g0 : 0 ≤ g) (g1 : g ≤ 11) (e : f ≠ g) : fat f + fw f ≤ fat g ∨ fat g + fw g ≤ fat f := by
  rcases Int.lt_or_gt_of_ne e with h | h
  · left; unfold fat fw; repeat' split
    all_goals omega
  · right; unfold fat fw; repeat' split
    all_goals omega
theorem fb_length {f : Int} (v : Int) (h0 : 0 ≤ f) (h1 : f ≤ 11) : ((fb f v).length : Int) = fw f := by
  have := (fat_in h0 h1).2.2
  unfold fb
  split
  · rw [pb4_length]; unfold fw; split <;> omega
  · rw [leb_length]; omega
theorem fb_bytes (f v : Int) : Bytes (fb f v) := by
  unfold fb
  split
  · exact pb4_bytes v
  · exact leb_bytes _ _
theorem hdr_f {s : St} {x : Int} (h : within s x 40) {f : Int} (h0 : 0 ≤ f) (h1 : f ≤ 11) : within s (x + fat f) (fw f) := by
  have := fat_in h0 h1
  exact within_part h _ _ (by omega) (by omega) (by omega) (by omega)
theorem hdr_no {s : St} {x : Int} (h : within s x 40) : ¬ (x < 0 ∨ 1024 * (s.own.length : Int) < x) := by obtain ⟨_, a, b, _⟩ := h; omega
/-- a field set -/
theorem itemSet_lay {s : St} (hs : Ok s) {x f v : Int} (h : within s x 40) (h0 : 0 ≤ f) (h1 : f ≤ 11) (h4 : f ≠ 4) (hv : Fits f v) : itemSet s x f v = (lay s (x + fat f) (fb f v), 0) := by
  unfold itemSet fb
  rw [if_neg (by omega), if_neg (hdr_no h)]
  have hw := hdr_f h h0 h1
  unfold Fits at hv
  by_cases h3 : f ≤ 3
  · rw [if_pos h3] at hv ⊢
    rw [if_pos h3]
    have e : fw f = 4 := by unfold fw; split <;> omega
    rw [e] at hw
    exact setPlace_lay hs hw hv
  · rw [if_neg h3] at hv ⊢
    rw [if_neg h3, if_neg (by omega)]
    exact setNumber_lay hs hw (by have := fw_cases h0 h1 h4; omega) hv
theorem itemGet_of {s : St} (hs : Ok s) {x f v : Int} (h : within s x 40) (h0 : 0 ≤ f) (h1 : f ≤ 11) (h4 : f ≠ 4) (hv : Fits f v) (hg : got s (x + fat f) (fw f) = fb f v) : itemGet s x f = (v, 0) := by
  unfold itemGet
  rw [if_neg (by omega), if_neg (hdr_no h)]
  have hw := hdr_f h h0 h1
  unfold Fits at hv
  unfold fb at hg
  by_cases h3 : f ≤ 3
  · rw [if_pos h3] at hv hg ⊢
    have e : fw f = 4 := by unfold fw; split <;> omega
    rw [e] at hw hg
    exact place_of_got hs hw hv hg
  · rw [if_neg h3] at hv hg ⊢
    unfold number
    rw [if_pos hw, hg]
    have hc := fw_cases h0 h1 h4
    obtain ⟨n, hn⟩ := Int.eq_ofNat_of_zero_le (show 0 ≤ fw f by omega)
    rw [hn] at hv hc ⊢
    have en : ((n : Int)).toNat = n := by omega
    rw [en] at hv ⊢
    have := getC_leb v n 0 n (by omega) (by omega)
    have e0 : ((0 : Nat) : Int) = 0 := rfl
    rw [e0] at this
    rw [this]
    congr 1
    rw [show 8 * 0 = 0 from rfl, Int.pow_zero, Int.ediv_one]
    exact Int.emod_eq_of_lt hv.1 hv.2
/-- what a field says is its bytes -/
theorem got_of_itemGet {s : St} (hs : Ok s) {x f v : Int} (h : within s x 40) (h0 : 0 ≤ f) (h1 : f ≤ 11) (h4 : f ≠ 4) (hg : itemGet s x f = (v, 0)) : got s (x + fat f) (fw f) = fb f v ∧ Fits f v := by
  unfold itemGet at hg
  rw [if_neg (by omega), if_neg (hdr_no h)] at hg
  have hw := hdr_f h h0 h1
  unfold fb Fits
  by_cases h3 : f ≤ 3
  · rw [if_pos h3] at hg
    rw [if_pos h3, if_pos h3]
    have e : fw f = 4 := by unfold fw; split <;> omega
    rw [e] at hw ⊢
    exact got_of_place hs hw hg
  · rw [if_neg h3] at hg
    rw [if_neg h3, if_neg h3]
    have L := got_length hs hw
    have Bt := got_bytes hs (x + fat f) (fw f)
    unfold number at hg
    rw [if_pos hw] at hg
    have hc := fw_cases h0 h1 h4
    unfold getC at hg
    rw [if_pos (show there (got s (x + fat f) (fw f)).length 0 (fw f) from ⟨by omega, by omega, by omega⟩)] at hg
    have e : ((got s (x + fat f) (fw f)).drop (0 : Int).toNat).take (fw f).toNat = got s (x + fat f) (fw f) := by
      show (got s (x + fat f) (fw f)).take _ = _
      exact List.take_of_length_le (by omega)
    rw [e] at hg
    have hv : le (got s (x + fat f) (fw f)) = v := by injection hg
    have R := le_range _ Bt
    have E := leb_le _ Bt
    rw [L, hv] at R E
    exact ⟨E.symm, R⟩
/-! ### an item in its chunks -/
/-- how many bytes of a value lie ahead of an item's i-th chunk -/
def offV (tc kl vl : Int) : Nat → Int
  | 0 => 0
  | 1 => min vl (tc - 40 - kl)
  | i + 2 => offV tc kl vl (i + 1) + min (vl - offV tc kl vl (i + 1)) (tc - 4)
/-- where the i-th part of a value lies -/
def partP (P : List Int) (kl : Int) (i : Nat) : Int := if i = 0 then P.getD 0 0 + 40 + kl else P.getD i 0 + 4
/-- where the i-th chunk says which one is next -/
def linkP (P : List Int) (i : Nat) : Int := if i = 0 then P.getD 0 0 + 12 else P.getD i 0
def nextP (P : List Int) (i : Nat) : Int := if i + 1 < P.length then P.getD (i + 1) 0 else -1
structure ItemAt (t : St) (tc : Int) (P : List Int) (key val : List Int) (ex fl cas : Int) : Prop where
  ok : Ok t
  pos : 0 < P.length
  size : 40 + (key.length : Int) ≤ tc ∧ 44 ≤ tc
  inn : ∀ p ∈ P, within t p tc
  most : P.length ≤ 16
  lens : 1 ≤ key.length ∧ key.length ≤ 32 ∧ val.length ≤ 2000
  bytes : Bytes key ∧ Bytes val
  fex : itemGet t (P.getD 0 0) 5 = (ex, 0)
  ffl : itemGet t (P.getD 0 0) 6 = (fl, 0)
  fvl : itemGet t (P.getD 0 0) 7 = ((val.length : Int), 0)
  fkl : itemGet t (P.getD 0 0) 8 = ((key.length : Int), 0)
  fcas : number t (P.getD 0 0 + 16) 8 = (cas, 0)
  k : got t (P.getD 0 0 + 40) key.length = key
  chain : ∀ i, i < P.length → place t (linkP P i) = (nextP P i, 0)
  v : ∀ i, i < P.length → got t (partP P key.length i) (offV tc key.length val.length (i + 1) - offV tc key.length val.length i) = (val.drop (offV tc key.length val.length i).toNat).take (offV tc key.length val.length (i + 1) - offV tc key.length val.length i).toNat
  all : offV tc key.length val.length P.length = val.length
theorem offV_mono {tc kl vl : Int} (h : 40 + kl ≤ tc) (h4 : 44 ≤ tc) (hv : 0 ≤ vl) : ∀ i, 0 ≤ offV tc kl vl i ∧ offV tc kl vl i ≤ vl ∧ offV tc kl vl i ≤ offV tc kl vl (i + 1) ∧ (0 < i → offV tc kl vl (i + 1) - offV tc kl vl i ≤ tc - 4) ∧ offV tc kl vl 1 ≤ tc - 40 - kl := by
  intro i
  induction i with
  | zero => simp only [offV]; omega
  | succ i ih =>
    have e : offV tc kl vl (i + 1 + 1) = offV tc kl vl (i + 1) + min (vl - offV tc kl vl (i + 1)) (tc - 4) := rfl
    have e1 : offV tc kl vl 1 = min vl (tc - 40 - kl) := rfl
    obtain ⟨h1, h2, h3, h5, h6⟩ := ih
    have hle : offV tc kl vl (i + 1) ≤ vl := by
      cases i with
      | zero => show min vl (tc - 40 - kl) ≤ vl; omega
      | succ i =>
        have e2 : offV tc kl vl (i + 1 + 1) = offV tc kl vl (i + 1) + min (vl - offV tc kl vl (i + 1)) (tc - 4) := rfl
        omega
    refine ⟨by omega, hle, by omega, fun _ => by omega, by omega⟩
/-- where the parts lie in their chunks -/
theorem ItemAt.part_in {t : St} {tc : Int} {P key val : List Int} {ex fl cas : Int} (h : ItemAt t tc P key val ex fl cas) {i : Nat} (hi : i < P.length) :
    ∃ o : Int, 4 ≤ o ∧ partP P key.length i = P.getD i 0 + o ∧ o + (offV tc key.length val.length (i + 1) - offV tc key.length val.length i) ≤ tc ∧ 0 ≤ offV tc key.length val.length (i + 1) - offV tc key.length val.length i := by
  have h1 := offV_mono (tc := tc) (kl := key.length) (vl := val.length) h.size.1 h.size.2 (by omega) i
  cases i with
  | zero =>
    refine ⟨40 + key.length, by omega, by unfold partP; rw [if_pos rfl]; omega, ?_, by omega⟩
    have : offV tc key.length val.length 0 = 0 := rfl
    have := h1.2.2.2.2
    simp only [Nat.zero_add] at *
    omega
  | succ i => exact ⟨4, by omega, by unfold partP; rw [if_neg (by omega)], by have := h1.2.2.2.1 (by omega); omega, by omega⟩
end Go.Proofs.Ytolpjgpimholcaa.ArenaPure
