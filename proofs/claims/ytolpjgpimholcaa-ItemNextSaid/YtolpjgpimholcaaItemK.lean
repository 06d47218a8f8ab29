/- Chapter 08 in plain words: an item laid in, step by step. No program in sight. -/
import Derived.Test.YtolpjgpimholcaaItemAt
namespace Go.Proofs.Ytolpjgpimholcaa.ArenaPure
open Go Go.RowKit Go.Proofs.Ytolpjgpimholcaa.Mem Go.Proofs.Ytolpjgpimholcaa.CodecPure Go.Proofs.Ytolpjgpimholcaa.Codec Go.Proofs.Ytolpjgpimholcaa.Arena Go.Proofs.Ytolpjgpimholcaa.NeedPure
set_option linter.unusedVariables false
set_option maxRecDepth 100000
/-- the values of a header's fields -/
def hvals (ex fl vl kl : Int) : List Int := [-1, -1, -1, -1, 0, ex, fl, vl, kl, 0, 0, 0]
theorem hvals_fits {ex fl vl kl : Int} (h5 : 0 ≤ ex ∧ ex < 4294967296) (h6 : 0 ≤ fl ∧ fl < 4294967296) (h7 : 0 ≤ vl ∧ vl ≤ 2000) (h8 : 0 ≤ kl ∧ kl ≤ 32) (f : Nat) (hf : f < 12) : Fits f ((hvals ex fl vl kl).getD f 0) := by
  match f, hf with
  | 0, _ => exact (show Pl (-1) from ⟨by decide, by decide⟩)
  | 1, _ => exact (show Pl (-1) from ⟨by decide, by decide⟩)
  | 2, _ => exact (show Pl (-1) from ⟨by decide, by decide⟩)
  | 3, _ => exact (show Pl (-1) from ⟨by decide, by decide⟩)
  | 4, _ => show (0 : Int) ≤ 0 ∧ (0 : Int) < 2 ^ 64; decide
  | 5, _ => show 0 ≤ ex ∧ ex < 2 ^ 32; omega
  | 6, _ => show 0 ≤ fl ∧ fl < 2 ^ 32; omega
  | 7, _ => show 0 ≤ vl ∧ vl < 2 ^ 16; omega
  | 8, _ => show 0 ≤ kl ∧ kl < 2 ^ 8; omega
  | 9, _ => show (0 : Int) ≤ 0 ∧ (0 : Int) < 2 ^ 8; decide
  | 10, _ => show (0 : Int) ≤ 0 ∧ (0 : Int) < 2 ^ 8; decide
  | 11, _ => show (0 : Int) ≤ 0 ∧ (0 : Int) < 2 ^ 8; decide
/-- the fields below k are so -/
structure HdrK (s t : St) (x : Int) (vs : List Int) (k : Nat) : Prop where
  lay : Lay s t (fun i => x ≤ i ∧ (i : Int) < x + 40)
  f : ∀ g : Nat, g < k → g < 12 → g ≠ 4 → got t (x + fat g) (fw g) = fb g (vs.getD g 0)
theorem lay_frame {s : St} (hs : Ok s) {x : Int} {X : List Int} (h : within s x X.length) (hX : Bytes X) (S : Nat → Prop) (hS : ∀ i : Nat, x ≤ i → (i : Int) < x + X.length → S i) : Lay s (lay s x X) S := by
  have hr := in_row hs h
  have h0 := h.2.1
  refine ⟨lay_ok hs (by omega) hX, rfl, fun i hi => ?_⟩
  show (splice s.B x.toNat X)[i]? = _
  rw [splice_get _ _ _ (by omega), if_neg fun q => hi (hS i (by omega) (by omega))]
theorem HdrK.step {s t : St} {x : Int} {vs : List Int} {k : Nat} (h : HdrK s t x vs k) (hk : k < 12) (h4 : k ≠ 4) (hw : within s x 40) (hv : Fits k (vs.getD k 0)) : HdrK s (itemSet t x k (vs.getD k 0)).1 x vs (k + 1) := by
  have ht := h.lay.hdr hw
  have x0 : 0 ≤ x := hw.2.1
  rw [itemSet_lay h.lay.ok ht (by omega) (by omega) (by omega) hv]
  have hl := fb_length (f := k) (vs.getD k 0) (by omega) (by omega)
  have hi := fat_in (f := k) (by omega) (by omega)
  have hwk : within t (x + fat k) (fb k (vs.getD k 0)).length := by rw [hl]; exact hdr_f ht (by omega) (by omega)
  refine ⟨h.lay.trans (lay_frame h.lay.ok hwk (fb_bytes _ _) _ fun i h1 h2 => by omega), fun g hg h12 hg4 => ?_⟩
  have gi := fat_in (f := g) (by omega) (by omega)
  by_cases e : g = k
  · subst e
    rw [← hl]
    exact got_lay h.lay.ok hwk
  · have := fat_off (f := g) (g := k) (by omega) (by omega) (by omega) (by omega) (by omega)
    show got (ArenaPure.lay t _ _) _ _ = _
    rw [got_lay_off h.lay.ok hwk (by omega) (by omega) (by omega)]
    exact h.f g (by omega) h12 hg4
theorem HdrK.skip {s t : St} {x : Int} {vs : List Int} (h : HdrK s t x vs 4) : HdrK s t x vs 5 := ⟨h.lay, fun g hg h12 h4 => h.f g (by omega) h12 h4⟩
/-- the header and the key; the parts below k, and the links that lead to them -/
structure ItemK (s t : St) (tc : Int) (P : List Int) (key val : List Int) (ex fl cas : Int) (k : Nat) : Prop where
  ok : Ok t
  own : t.own = s.own
  out : ∀ i : Nat, (∀ p ∈ P, (i : Int) < p ∨ p + tc ≤ i) → t.B[i]? = s.B[i]?
  f : ∀ g : Nat, g < 12 → g ≠ 3 → g ≠ 4 → got t (P.getD 0 0 + fat g) (fw g) = fb g ((hvals ex fl val.length key.length).getD g 0)
  cas : got t (P.getD 0 0 + 16) 8 = leb cas 8
  ky : got t (P.getD 0 0 + 40) key.length = key
  chain : ∀ i, i < P.length → (i < k ∨ i = 0) → got t (linkP P i) 4 = pb4 (if i + 1 < k then P.getD (i + 1) 0 else -1)
  v : ∀ i, i < k → got t (partP P key.length i) (offV tc key.length val.length (i + 1) - offV tc key.length val.length i) = (val.drop (offV tc key.length val.length i).toNat).take (offV tc key.length val.length (i + 1) - offV tc key.length val.length i).toNat
/-- .. and the k-th link, too -/
structure ItemM (s t : St) (tc : Int) (P : List Int) (key val : List Int) (ex fl cas : Int) (k : Nat) : Prop where
  ok : Ok t
  own : t.own = s.own
  out : ∀ i : Nat, (∀ p ∈ P, (i : Int) < p ∨ p + tc ≤ i) → t.B[i]? = s.B[i]?
  f : ∀ g : Nat, g < 12 → g ≠ 3 → g ≠ 4 → got t (P.getD 0 0 + fat g) (fw g) = fb g ((hvals ex fl val.length key.length).getD g 0)
  cas : got t (P.getD 0 0 + 16) 8 = leb cas 8
  ky : got t (P.getD 0 0 + 40) key.length = key
  chain : ∀ i, i < P.length → i < k + 1 → got t (linkP P i) 4 = pb4 (if i + 1 < k + 1 then P.getD (i + 1) 0 else -1)
  v : ∀ i, i < k → got t (partP P key.length i) (offV tc key.length val.length (i + 1) - offV tc key.length val.length i) = (val.drop (offV tc key.length val.length i).toNat).take (offV tc key.length val.length (i + 1) - offV tc key.length val.length i).toNat
/-- what the places and lengths are like -/
structure Fine (s : St) (tc : Int) (P : List Int) (key val : List Int) (ex fl cas : Int) : Prop where
  ok : Ok s
  pos : 0 < P.length
  size : 40 + (key.length : Int) ≤ tc ∧ 44 ≤ tc ∧ tc ≤ 1024
  inn : ∀ p ∈ P, within s p tc
  apart : ∀ i j, i < P.length → j < P.length → i ≠ j → P.getD i 0 + tc ≤ P.getD j 0 ∨ P.getD j 0 + tc ≤ P.getD i 0
  most : P.length ≤ 16
  lens : 1 ≤ key.length ∧ key.length ≤ 32 ∧ val.length ≤ 2000
  bytes : Bytes key ∧ Bytes val
  nums : (0 ≤ ex ∧ ex < 4294967296) ∧ (0 ≤ fl ∧ fl < 4294967296) ∧ (0 ≤ cas ∧ cas < 18446744073709551616)
section
variable {s t : St} {tc : Int} {P key val : List Int} {ex fl cas : Int} {k : Nat}
theorem Fine.p_in (h : Fine s tc P key val ex fl cas) {i : Nat} (hi : i < P.length) : P.getD i 0 ∈ P := by rw [List.getD_eq_getElem?_getD, List.getElem?_eq_getElem hi]; exact List.getElem_mem hi
theorem Fine.p_wi (h : Fine s tc P key val ex fl cas) {i : Nat} (hi : i < P.length) : within s (P.getD i 0) tc := h.inn _ (h.p_in hi)
theorem Fine.pl (h : Fine s tc P key val ex fl cas) {i : Nat} (hi : i < P.length) : Pl (P.getD i 0) ∧ 0 ≤ P.getD i 0 := by
  have := h.ok.high
  obtain ⟨_, h1, h2, _⟩ := h.p_wi hi
  unfold Pl
  omega
theorem Fine.hdr (h : Fine s tc P key val ex fl cas) : within s (P.getD 0 0) 40 := by
  have := within_part (h.p_wi h.pos) 0 40 (by decide) (by decide) (by have := h.size; omega) (by decide)
  rwa [Int.add_zero] at this
theorem Fine.part (h : Fine s tc P key val ex fl cas) {i : Nat} (hi : i < P.length) :
    ∃ o : Int, 4 ≤ o ∧ partP P key.length i = P.getD i 0 + o ∧ o + (offV tc key.length val.length (i + 1) - offV tc key.length val.length i) ≤ tc ∧ 0 ≤ offV tc key.length val.length (i + 1) - offV tc key.length val.length i ∧ (i = 0 → o = 40 + key.length) := by
  have h1 := offV_mono (tc := tc) (kl := key.length) (vl := val.length) h.size.1 h.size.2.1 (by omega) i
  cases i with
  | zero =>
    refine ⟨40 + key.length, by omega, by unfold partP; rw [if_pos rfl]; omega, ?_, by omega, fun _ => rfl⟩
    have : offV tc key.length val.length 0 = 0 := rfl
    have := h1.2.2.2.2
    simp only [Nat.zero_add] at *
    omega
  | succ i => exact ⟨4, by omega, by unfold partP; rw [if_neg (by omega)], by have := h1.2.2.2.1 (by omega); omega, by omega, fun e => by omega⟩
/-- the header and the key -/
theorem Fine.start (h : Fine s tc P key val ex fl cas) {t : St} (hh : HdrK s t (P.getD 0 0) (hvals ex fl val.length key.length) 12) :
    setNumber t (P.getD 0 0 + 16) 8 cas = (lay t (P.getD 0 0 + 16) (leb cas 8), 0) ∧ write (lay t (P.getD 0 0 + 16) (leb cas 8)) (P.getD 0 0 + 40) key = (lay (lay t (P.getD 0 0 + 16) (leb cas 8)) (P.getD 0 0 + 40) key, 0) ∧
      ItemK s (lay (lay t (P.getD 0 0 + 16) (leb cas 8)) (P.getD 0 0 + 40) key) tc P key val ex fl cas 0 := by
  have hx := h.hdr
  have ht := hh.lay.hdr hx
  have x0 := (h.pl h.pos).2
  have e8 : (8 : Int).toNat = 8 := rfl
  have w16 : within t (P.getD 0 0 + 16) 8 := within_part ht 16 8 (by decide) (by decide) (by decide) (by decide)
  have l8 : ((leb cas 8).length : Int) = 8 := by rw [leb_length]; rfl
  have w16' : within t (P.getD 0 0 + 16) (leb cas 8).length := by rw [l8]; exact w16
  have s1 := setNumber_lay hh.lay.ok w16 (.inr (.inr (.inr rfl))) (v := cas) (by have := h.nums.2.2; rw [e8]; omega)
  rw [e8] at s1
  have k1 := lay_frame hh.lay.ok w16' (leb_bytes _ _) (fun i => P.getD 0 0 ≤ i ∧ (i : Int) < P.getD 0 0 + tc) fun i h1 h2 => by have := h.size; omega
  have wt := (k1.within (P.getD 0 0) tc).2 ((hh.lay.within (P.getD 0 0) tc).2 (h.p_wi h.pos))
  have w40 : within (lay t (P.getD 0 0 + 16) (leb cas 8)) (P.getD 0 0 + 40) key.length := within_part wt 40 key.length (by decide) (by omega) (by have := h.size; omega) (by have := h.lens; omega)
  have s2 : write (lay t (P.getD 0 0 + 16) (leb cas 8)) (P.getD 0 0 + 40) key = (lay (lay t (P.getD 0 0 + 16) (leb cas 8)) (P.getD 0 0 + 40) key, 0) := by unfold write; rw [if_pos w40]
  have k2 := lay_frame k1.ok w40 h.bytes.1 (fun i => P.getD 0 0 ≤ i ∧ (i : Int) < P.getD 0 0 + tc) fun i h1 h2 => by have := h.size; omega
  have keep : ∀ y n : Int, P.getD 0 0 ≤ y → 0 ≤ n → y + n ≤ P.getD 0 0 + 40 → (y + n ≤ P.getD 0 0 + 16 ∨ P.getD 0 0 + 24 ≤ y) → got (lay (lay t (P.getD 0 0 + 16) (leb cas 8)) (P.getD 0 0 + 40) key) y n = got t y n := fun y n h1 h2 h3 h4 => by
    rw [got_lay_off k1.ok w40 (by omega) h2 (by omega), got_lay_off hh.lay.ok w16' (by omega) h2 (by omega)]
  refine ⟨s1, s2, k2.ok, by rw [k2.own, k1.own, hh.lay.own], fun i hi => ?_, fun g hg h3 h4 => ?_, ?_, ?_, fun i hi h0 => ?_, fun i hi => by omega⟩
  · have hp := hi _ (h.p_in h.pos)
    have := h.size
    rw [k2.out i (by omega), k1.out i (by omega), hh.lay.out i (by omega)]
  · have gi := fat_in (f := g) (by omega) (by omega)
    have g4 := fat_off (f := g) (g := 4) (by omega) (by omega) (by omega) (by omega) (by omega)
    have f4 : fat 4 = 16 ∧ fw 4 = 8 := ⟨rfl, rfl⟩
    rw [keep _ _ (by omega) (by omega) (by omega) (by omega)]
    exact hh.f g hg hg h4
  · rw [got_lay_off k1.ok w40 (by omega) (by decide) (by omega)]
    have := got_lay hh.lay.ok w16'
    rw [l8] at this
    exact this
  · exact got_lay k1.ok w40
  · have ei : i = 0 := by omega
    subst ei
    rw [if_neg (by omega)]
    have := hh.f 3 (by decide) (by decide) (by decide)
    have f3 : fat ((3 : Nat) : Int) = 12 ∧ fw ((3 : Nat) : Int) = 4 := ⟨rfl, rfl⟩
    rw [f3.1, f3.2] at this
    show got _ (P.getD 0 0 + 12) 4 = _
    rw [keep _ _ (by omega) (by omega) (by omega) (by omega)]
    exact this
/-- another chunk's own bytes stay, whatever is laid into one -/
theorem ItemK.hdr_within (h : Fine s tc P key val ex fl cas) (hk : ItemK s t tc P key val ex fl cas k) {i : Nat} (hi : i < P.length) : within t (P.getD i 0) tc := (within_own hk.own _ _).2 (h.p_wi hi)
theorem Fine.link (h : Fine s tc P key val ex fl cas) {i : Nat} (hi : i < P.length) : ∃ o : Int, 0 ≤ o ∧ o + 4 ≤ 16 ∧ linkP P i = P.getD i 0 + o ∧ (i = 0 → o = 12) ∧ (i ≠ 0 → o = 0) := by
  unfold linkP
  by_cases e : i = 0
  · subst e; exact ⟨12, by omega, by omega, if_pos rfl, fun _ => rfl, fun q => absurd rfl q⟩
  · exact ⟨0, by omega, by omega, by rw [if_neg e]; omega, fun q => absurd q e, fun _ => rfl⟩
/-- the next chunk is linked -/
theorem ItemK.link (h : Fine s tc P key val ex fl cas) (hk : ItemK s t tc P key val ex fl cas k) (h0 : 0 < k) (hp : k < P.length) :
    ItemM s (setPlace (setPlace t (linkP P (k - 1)) (P.getD k 0)).1 (P.getD k 0) (-1)).1 tc P key val ex fl cas k := by
  have hs3 := h.size
  have hk1 : k - 1 < P.length := by omega
  obtain ⟨o1, a1, a2, a3, a4, a5⟩ := h.link hk1
  obtain ⟨o2, b1, b2, b3, b4, b5⟩ := h.link hp
  have o20 := b5 (by omega)
  have w1 := hk.hdr_within h hk1
  have wl : within t (linkP P (k - 1)) 4 := by rw [a3]; exact within_part w1 o1 4 (by omega) (by decide) (by omega) (by decide)
  have e1 := setPlace_lay hk.ok wl (h.pl hp).1
  have l1 := lay_frame hk.ok (X := pb4 (P.getD k 0)) (x := linkP P (k - 1)) (by rw [pb4_length]; exact wl) (pb4_bytes _) (fun i => linkP P (k - 1) ≤ i ∧ (i : Int) < linkP P (k - 1) + 4) fun i h1 h2 => by rw [pb4_length] at h2; exact ⟨h1, h2⟩
  have g1 := got_lay hk.ok (X := pb4 (P.getD k 0)) (x := linkP P (k - 1)) (by rw [pb4_length]; exact wl)
  rw [pb4_length] at g1
  rw [e1]
  generalize lay t (linkP P (k - 1)) (pb4 (P.getD k 0)) = t1 at l1 g1
  have w2 : within t1 (P.getD k 0) 4 := (l1.within _ _).2 (by
    have := within_part (hk.hdr_within h hp) 0 4 (by decide) (by decide) (by omega) (by decide)
    rwa [Int.add_zero] at this)
  have e2 := setPlace_lay l1.ok w2 (show Pl (-1) from ⟨by decide, by decide⟩)
  have l2 := lay_frame l1.ok (X := pb4 (-1)) (x := P.getD k 0) (by rw [pb4_length]; exact w2) (pb4_bytes _) (fun i => P.getD k 0 ≤ i ∧ (i : Int) < P.getD k 0 + 4) fun i h1 h2 => by rw [pb4_length] at h2; exact ⟨h1, h2⟩
  have g2 := got_lay l1.ok (X := pb4 (-1)) (x := P.getD k 0) (by rw [pb4_length]; exact w2)
  rw [pb4_length] at g2
  show ItemM s (setPlace t1 _ _).1 tc P key val ex fl cas k
  rw [e2]
  generalize lay t1 (P.getD k 0) (pb4 (-1)) = t2 at l2 g2
  have keep : ∀ y n : Int, 0 ≤ y → 0 ≤ n → (y + n ≤ linkP P (k - 1) ∨ linkP P (k - 1) + 4 ≤ y) → (y + n ≤ P.getD k 0 ∨ P.getD k 0 + 4 ≤ y) → got t2 y n = got t y n := fun y n h1 h2 h3 h4 => by
    rw [l2.got y n h1 fun i h5 h6 => by omega, l1.got y n h1 fun i h5 h6 => by omega]
  have z0 := (h.pl h.pos).2
  have ap : ∀ i, i < P.length → i ≠ k → P.getD i 0 + tc ≤ P.getD k 0 ∨ P.getD k 0 + tc ≤ P.getD i 0 := fun i hi e => h.apart i k hi hp e
  have ap0 := ap 0 h.pos (by omega)
  have apk : k - 1 ≠ 0 → P.getD 0 0 + tc ≤ P.getD (k - 1) 0 ∨ P.getD (k - 1) 0 + tc ≤ P.getD 0 0 := fun e => h.apart 0 (k - 1) h.pos hk1 (by omega)
  have hdrk : ∀ y n : Int, P.getD 0 0 ≤ y → 0 ≤ n → y + n ≤ P.getD 0 0 + tc → (y + n ≤ P.getD 0 0 + 12 ∨ P.getD 0 0 + 16 ≤ y) → got t2 y n = got t y n := fun y n h1 h2 h3 h4 => by
    refine keep y n (by omega) h2 ?_ (by omega)
    by_cases e : k - 1 = 0
    · have := a4 e; rw [a3, e]; omega
    · have := apk e; have := a5 e; rw [a3]; omega
  refine ⟨l2.ok, by rw [l2.own, l1.own, hk.own], fun i hi => ?_, fun g hg h3 h4 => ?_, ?_, ?_, fun i hi h1 => ?_, fun i hi => ?_⟩
  · have p1 := hi _ (h.p_in hk1)
    have p2 := hi _ (h.p_in hp)
    rw [l2.out i (by omega), l1.out i (by rw [a3]; omega), hk.out i hi]
  · have gi := fat_in (f := g) (by omega) (by omega)
    have g3 := fat_off (f := g) (g := 3) (by omega) (by omega) (by omega) (by omega) (by omega)
    have f3 : fat 3 = 12 ∧ fw 3 = 4 := ⟨rfl, rfl⟩
    rw [hdrk _ _ (by omega) (by omega) (by omega) (by omega)]
    exact hk.f g hg h3 h4
  · rw [hdrk _ _ (by omega) (by omega) (by omega) (by omega)]; exact hk.cas
  · rw [hdrk _ _ (by omega) (by omega) (by omega) (by omega)]; exact hk.ky
  · by_cases ek : i = k
    · subst ek
      rw [if_neg (by omega), b3, o20, Int.add_zero]
      exact g2
    · by_cases ek1 : i = k - 1
      · subst ek1
        rw [if_pos (by omega), show k - 1 + 1 = k from by omega, l2.got _ _ (by rw [a3]; have := (h.pl hk1).2; omega) fun j h5 h6 => by have := ap (k - 1) hk1 (by omega); rw [a3] at h5 h6; omega]
        exact g1
      · obtain ⟨o3, c1, c2, c3, c4, c5⟩ := h.link hi
        have := ap i hi ek
        have := h.apart i (k - 1) hi hk1 ek1
        have := (h.pl hi).2
        rw [keep _ _ (by omega) (by omega) (by rw [a3]; omega) (by omega), hk.chain i hi (.inl (by omega))]
        congr 1
        by_cases e : i + 1 < k
        · rw [if_pos e, if_pos (by omega)]
        · omega
  · obtain ⟨o3, c1, c2, c3, c4, c5⟩ := h.part (show i < P.length by omega)
    have := ap i (by omega) (by omega)
    have := (h.pl (show i < P.length by omega)).2
    rw [keep _ _ (by omega) (by omega) ?_ (by omega)]
    · exact hk.v i hi
    · by_cases e : i = k - 1
      · subst e
        rw [a3, c2]
        by_cases e0 : k - 1 = 0
        · have := a4 e0; have := c5 e0; omega
        · have := a5 e0; omega
      · have := h.apart i (k - 1) (by omega) hk1 e
        rw [a3, c2]
        omega
theorem ItemK.first (hk : ItemK s t tc P key val ex fl cas 0) : ItemM s t tc P key val ex fl cas 0 :=
  ⟨hk.ok, hk.own, hk.out, hk.f, hk.cas, hk.ky, fun i hi h1 => by
    have := hk.chain i hi (.inr (by omega))
    rw [if_neg (by omega)] at this
    rw [if_neg (by omega)]
    exact this, hk.v⟩
theorem write_nil (s : St) (x : Int) : (write s x []).1 = s := by
  unfold write
  split
  · exact lay_nil s x
  · rfl
/-- a part's bytes -/
def partV (tc kl : Int) (val : List Int) (k : Nat) : List Int := (val.drop (offV tc kl val.length k).toNat).take (offV tc kl val.length (k + 1) - offV tc kl val.length k).toNat
theorem Fine.partV_len (h : Fine s tc P key val ex fl cas) (k : Nat) : ((partV tc key.length val k).length : Int) = offV tc key.length val.length (k + 1) - offV tc key.length val.length k := by
  have h1 := offV_mono (tc := tc) (kl := key.length) (vl := val.length) h.size.1 h.size.2.1 (by omega) k
  have h2 := offV_mono (tc := tc) (kl := key.length) (vl := val.length) h.size.1 h.size.2.1 (by omega) (k + 1)
  unfold partV
  rw [List.length_take, List.length_drop]
  omega
theorem ItemM.part (h : Fine s tc P key val ex fl cas) (hk : ItemM s t tc P key val ex fl cas k) (hp : k < P.length) :
    ItemK s (write t (partP P key.length k) (partV tc key.length val k)).1 tc P key val ex fl cas (k + 1) := by
  have hs3 := h.size
  obtain ⟨o, c1, c2, c3, c4, c5⟩ := h.part hp
  have hl := h.partV_len k
  have px := (h.pl hp).2
  have hb : Bytes (partV tc key.length val k) := fun x hx => h.bytes.2 x (List.mem_of_mem_drop (List.mem_of_mem_take hx))
  by_cases e : partV tc key.length val k = []
  · rw [e, write_nil]
    refine ⟨hk.ok, hk.own, hk.out, hk.f, hk.cas, hk.ky, fun i hi h1 => hk.chain i hi (by omega), fun i hi => ?_⟩
    by_cases ei : i = k
    · subst ei
      have : partV tc key.length val i = [] := e
      unfold partV at this
      rw [this]
      rw [e] at hl
      have z : offV tc key.length val.length (i + 1) - offV tc key.length val.length i = 0 := by simp at hl; omega
      rw [z]
      unfold got
      exact List.take_zero
    · exact hk.v i (by omega)
  · have hpos : 0 < (partV tc key.length val k).length := List.length_pos_iff.2 e
    have wt : within t (P.getD k 0) tc := (within_own hk.own _ _).2 (h.p_wi hp)
    have wl : within t (partP P key.length k) (partV tc key.length val k).length := by
      rw [c2]; exact within_part wt o _ (by omega) (by omega) (by omega) (by omega)
    have e1 : (write t (partP P key.length k) (partV tc key.length val k)).1 = lay t (partP P key.length k) (partV tc key.length val k) := write_lay _ _ _ wl
    have l1 := lay_frame hk.ok wl hb (fun i => partP P key.length k ≤ i ∧ (i : Int) < partP P key.length k + (partV tc key.length val k).length) fun i h1 h2 => ⟨h1, h2⟩
    have g1 := got_lay hk.ok wl
    rw [e1]
    generalize lay t (partP P key.length k) (partV tc key.length val k) = t1 at l1 g1
    have keep : ∀ y n : Int, 0 ≤ y → 0 ≤ n → (y + n ≤ partP P key.length k ∨ partP P key.length k + (partV tc key.length val k).length ≤ y) → got t1 y n = got t y n := fun y n h1 h2 h3 => l1.got y n h1 fun i h5 h6 => by omega
    have z0 := (h.pl h.pos).2
    have hdrk : ∀ y n : Int, P.getD 0 0 ≤ y → 0 ≤ n → y + n ≤ P.getD 0 0 + 40 + key.length → got t1 y n = got t y n := fun y n h1 h2 h3 => by
      refine keep y n (by omega) h2 ?_
      rw [c2]
      by_cases e0 : k = 0
      · subst e0; have := c5 rfl; omega
      · have := h.apart 0 k h.pos hp (by omega); omega
    refine ⟨l1.ok, by rw [l1.own, hk.own], fun i hi => ?_, fun g hg h3 h4 => ?_, ?_, ?_, fun i hi h1 => ?_, fun i hi => ?_⟩
    · have p1 := hi _ (h.p_in hp)
      rw [l1.out i (by rw [c2]; omega), hk.out i hi]
    · have gi := fat_in (f := g) (by omega) (by omega)
      rw [hdrk _ _ (by omega) (by omega) (by omega)]
      exact hk.f g hg h3 h4
    · rw [hdrk _ _ (by omega) (by omega) (by omega)]; exact hk.cas
    · rw [hdrk _ _ (by omega) (by omega) (by omega)]; exact hk.ky
    · obtain ⟨o2, b1, b2, b3, b4, b5⟩ := h.link hi
      have := (h.pl hi).2
      rw [keep _ _ (by omega) (by decide) ?_]
      · exact hk.chain i hi (by omega)
      · rw [c2, b3]
        by_cases e0 : i = k
        · subst e0
          by_cases e00 : i = 0
          · have := b4 e00; have := c5 e00; omega
          · have := b5 e00; omega
        · have := h.apart i k hi hp e0
          omega
    · by_cases ei : i = k
      · subst ei
        rw [hl] at g1
        exact g1
      · obtain ⟨o3, d1, d2, d3, d4, d5⟩ := h.part (show i < P.length by omega)
        have := (h.pl (show i < P.length by omega)).2
        have := h.apart i k (by omega) hp ei
        rw [keep _ _ (by omega) (by omega) (by rw [c2, d2]; omega)]
        exact hk.v i (by omega)
/-- all chunks -/
theorem ItemK.all (h : Fine s tc P key val ex fl cas) (hk : ItemK s t tc P key val ex fl cas P.length) (ha : offV tc key.length val.length P.length = val.length) : ItemAt t tc P key val ex fl cas := by
  have hh : within t (P.getD 0 0) 40 := (within_own hk.own _ _).2 h.hdr
  have fit := fun f (hf : f < 12) => hvals_fits (ex := ex) (fl := fl) (vl := val.length) (kl := key.length) h.nums.1 h.nums.2.1 (by have := h.lens; omega) (by have := h.lens; omega) f hf
  have z0 := (h.pl h.pos).2
  refine ⟨hk.ok, h.pos, ⟨h.size.1, h.size.2.1⟩, fun p hp => (within_own hk.own _ _).2 (h.inn p hp), h.most, h.lens, h.bytes,
    itemGet_of hk.ok hh (by decide) (by decide) (by decide) (fit 5 (by decide)) (hk.f 5 (by decide) (by decide) (by decide)),
    itemGet_of hk.ok hh (by decide) (by decide) (by decide) (fit 6 (by decide)) (hk.f 6 (by decide) (by decide) (by decide)),
    itemGet_of hk.ok hh (by decide) (by decide) (by decide) (fit 7 (by decide)) (hk.f 7 (by decide) (by decide) (by decide)),
    itemGet_of hk.ok hh (by decide) (by decide) (by decide) (fit 8 (by decide)) (hk.f 8 (by decide) (by decide) (by decide)), ?_, hk.ky, fun i hi => ?_, hk.v, ha⟩
  · have w16 : within t (P.getD 0 0 + 16) 8 := within_part hh 16 8 (by decide) (by decide) (by decide) (by decide)
    unfold number
    rw [if_pos w16, hk.cas]
    have := getC_leb cas 8 0 8 (by omega) (by omega)
    have e0 : ((0 : Nat) : Int) = 0 := rfl
    have e8 : ((8 : Nat) : Int) = 8 := rfl
    rw [e0, e8] at this
    rw [this]
    congr 1
    rw [show 8 * 0 = 0 from rfl, Int.pow_zero, Int.ediv_one]
    have := h.nums.2.2
    exact Int.emod_eq_of_lt (by omega) (by omega)
  · obtain ⟨o2, b1, b2, b3, b4, b5⟩ := h.link hi
    have wl : within t (linkP P i) 4 := by rw [b3]; exact within_part (hk.hdr_within h hi) o2 4 (by omega) (by decide) (by have := h.size; omega) (by decide)
    refine place_of_got hk.ok wl ?_ ?_
    · unfold nextP
      split
      · exact (h.pl (by assumption)).1
      · exact ⟨by decide, by decide⟩
    · exact hk.chain i hi (.inl hi)
end
end Go.Proofs.Ytolpjgpimholcaa.ArenaPure
