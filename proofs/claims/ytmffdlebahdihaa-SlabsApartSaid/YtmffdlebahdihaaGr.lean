import Derived.Test.YtmffdlebahdihaaGd
import Derived.Test.YtmffdlebahdihaaGh
import Derived.Test.YtmffdlebahdihaaGc
import Derived.Test.YtmffdlebahdihaaGa
import Derived.Test.YtmffdlebahdihaaGn
/- Chapter 07 in plain words: chunks of classes; each class's free chunks in a list that leads through them. No program in sight. -/
namespace Go.Proofs.Ytmffdlebahdihaa.Slab
open Go Go.RowKit Go.Proofs.Ytmffdlebahdihaa.Mem Go.Proofs.Ytmffdlebahdihaa.CodecPure Go.Proofs.Ytmffdlebahdihaa.ArenaPure Go.Proofs.Ytmffdlebahdihaa.Codec
set_option linter.unusedVariables false
set_option maxRecDepth 100000
variable {s t : St} {T : List Nat} {L : Nat → List Nat} {c d x y p : Nat} {own : List Int}
def tz (T : List Nat) (c : Nat) : Nat := T.getD c 0
/-- a chunk of a class -/
structure Chk (own : List Int) (T : List Nat) (c x : Nat) : Prop where
  pg : x / 1024 < own.length
  cls : own.getD (x / 1024) 0 = (c : Int)
  al : x % 1024 % tz T c = 0
  fit : x % 1024 + tz T c ≤ 1024
theorem Chk.within (h : Chk s.own T c x) (n : Int) (h0 : 0 ≤ n) (hn : n ≤ tz T c) : within s (x : Int) n := by
  have h1 := h.pg
  have h2 := h.fit
  have e : ((x : Int) / 1024).toNat = x / 1024 := by omega
  exact ⟨h0, by omega, by omega, by rw [e, h.cls]; omega, by omega⟩
theorem chk_apart (h : Chk own T c x) (k : Chk own T d y) (hc : 0 < tz T c) (hd : 0 < tz T d) (e : x ≠ y) : x + tz T c ≤ y ∨ y + tz T d ≤ x := by
  have h1 := h.fit
  have h2 := k.fit
  by_cases hp : x / 1024 = y / 1024
  · have ec : c = d := by
      have e1 := h.cls
      rw [hp, k.cls] at e1
      omega
    subst ec
    have a1 := Nat.dvd_of_mod_eq_zero h.al
    have a2 := Nat.dvd_of_mod_eq_zero k.al
    by_cases hl : x % 1024 < y % 1024
    · have := Nat.le_of_dvd (by omega) (Nat.dvd_sub a2 a1)
      omega
    · have := Nat.le_of_dvd (by omega) (Nat.dvd_sub a1 a2)
      omega
  · omega
/-- a list's first place -/
def hdI : List Nat → Int
  | [] => -1
  | x :: _ => (x : Int)
def Thr (s : St) : List Nat → Prop
  | [] => True
  | x :: l => place s (x : Int) = (hdI l, 0) ∧ Thr s l
theorem thr_frame {S : Nat → Prop} (h : Lay s t S) : ∀ l : List Nat, (∀ x ∈ l, ∀ i, x ≤ i → i < x + 4 → ¬ S i) → Thr s l → Thr t l
  | [], _, _ => trivial
  | x :: l, hf, ht => ⟨by rw [h.place (x : Int) (by omega) fun i h1 h2 => hf x (by simp) i (by omega) (by omega)]; exact ht.1, thr_frame h l (fun y hy => hf y (by simp [hy])) ht.2⟩
theorem thr_place {A : List Nat} {l : List Nat} : ∀ (A : List Nat), Thr s (A ++ x :: l) → place s (x : Int) = (hdI l, 0)
  | [], h => h.1
  | y :: A, h => thr_place (A := A) A h.2
structure SLI (s : St) (T : List Nat) (L : Nat → List Nat) : Prop where
  ok : Ok s
  tl : T.length ≤ 8
  ts : ∀ c, c < T.length → 4 ≤ tz T c ∧ tz T c ≤ 1024
  cls : ∀ p, p < s.own.length → s.own.getD p 0 < T.length
  nd : ∀ c, c < T.length → (L c).Nodup
  ch : ∀ c, c < T.length → ∀ x ∈ L c, Chk s.own T c x
  th : ∀ c, c < T.length → Thr s (L c)
def upN (L : Nat → List Nat) (c : Nat) (l : List Nat) : Nat → List Nat := fun j => if j = c then l else L j
theorem upN_at (L : Nat → List Nat) (c : Nat) (l : List Nat) : upN L c l c = l := if_pos rfl
theorem upN_ne (L : Nat → List Nat) {c j : Nat} (l : List Nat) (h : j ≠ c) : upN L c l j = L j := if_neg h
theorem upN_same (L : Nat → List Nat) (c : Nat) : upN L c (L c) = L := by
  funext j
  unfold upN
  split
  · rename_i e; rw [e]
  · rfl
theorem upN_two (L : Nat → List Nat) (c : Nat) (l m : List Nat) : upN (upN L c l) c m = upN L c m := by
  funext j
  unfold upN
  split <;> rfl
/-- what a chunk that is used keeps -/
def Fr (T : List Nat) (s : St) (L : Nat → List Nat) (t : St) (M : Nat → List Nat) (E : Nat → Prop) : Prop :=
  ∀ c, c < T.length → ∀ x, Chk s.own T c x → x ∉ L c → ¬ E x → Chk t.own T c x ∧ x ∉ M c ∧ got t (x : Int) (tz T c) = got s (x : Int) (tz T c)
theorem Fr.refl (T : List Nat) (s : St) (L : Nat → List Nat) (E : Nat → Prop) : Fr T s L s L E := fun c hc x h1 h2 _ => ⟨h1, h2, rfl⟩
theorem Fr.trans {u : St} {M N : Nat → List Nat} {E : Nat → Prop} (h : Fr T s L t M E) (k : Fr T t M u N E) : Fr T s L u N E := fun c hc x h1 h2 h3 => by
  obtain ⟨a1, a2, a3⟩ := h c hc x h1 h2 h3
  obtain ⟨b1, b2, b3⟩ := k c hc x a1 a2 h3
  exact ⟨b1, b2, b3.trans a3⟩
theorem Fr.mono {M : Nat → List Nat} {E E' : Nat → Prop} (h : Fr T s L t M E) (k : ∀ x, E x → E' x) : Fr T s L t M E' := fun c hc x h1 h2 h3 => h c hc x h1 h2 fun q => h3 (k x q)
theorem SLI.lt (h : SLI s T L) (hx : Chk s.own T c x) : x < 32768 := by
  have := h.ok.high
  have := hx.pg
  omega
theorem hd_pl (h : SLI s T L) (hc : c < T.length) : Pl (hdI (L c)) := by
  cases e : L c with
  | nil => show Pl (-1); unfold Pl; omega
  | cons x l =>
    have := h.lt (h.ch c hc x (by rw [e]; simp))
    show Pl (x : Int)
    unfold Pl; omega
/-- a chunk is in no other class's list -/
theorem SLI.not_other (h : SLI s T L) (hx : Chk s.own T c x) (hd : d < T.length) (hm : x ∈ L d) : d = c := by
  have := (h.ch d hd x hm).cls
  rw [hx.cls] at this
  omega
/-- bytes laid into a chunk that is in no list -/
theorem SLI.lay (h : SLI s T L) (hc : c < T.length) (hx : Chk s.own T c x) (hn : x ∉ L c) {S : Nat → Prop} (hl : Lay s t S) (hS : ∀ i, S i → x ≤ i ∧ i < x + tz T c) : SLI t T L ∧ Fr T s L t L (· = x) := by
  have eo := hl.own
  have far : ∀ d, d < T.length → ∀ y, Chk s.own T d y → y ≠ x → ∀ i, y ≤ i → i < y + tz T d → ¬ S i := fun d hd y hy ne i h1 h2 q => by
    have := hS i q
    have := h.ts c hc
    have := h.ts d hd
    rcases chk_apart hy hx (by omega) (by omega) ne with q | q <;> omega
  have out : ∀ d, d < T.length → ∀ y ∈ L d, y ≠ x := fun d hd y hy e => by
    subst e
    have := h.not_other hx hd hy
    subst this
    exact hn hy
  refine ⟨⟨hl.ok, h.tl, h.ts, fun p hp => by rw [eo] at hp ⊢; exact h.cls p hp, h.nd, fun d hd y hy => by rw [eo]; exact h.ch d hd y hy, fun d hd => thr_frame hl _ (fun y hy i h1 h2 => far d hd y (h.ch d hd y hy) (out d hd y hy) i h1 (by have := h.ts d hd; omega)) (h.th d hd)⟩, fun d hd y h1 h2 h3 => ⟨by rw [eo]; exact h1, h2, ?_⟩⟩
  exact hl.got (y : Int) (tz T d) (by omega) fun i h4 h5 => far d hd y h1 h3 i (by omega) (by omega)
/-- a list's first chunk taken -/
theorem SLI.pop (h : SLI s T L) (hc : c < T.length) {l : List Nat} (e : L c = x :: l) : SLI s T (upN L c l) ∧ Chk s.own T c x ∧ x ∉ l ∧ place s (x : Int) = (hdI l, 0) := by
  have nd := h.nd c hc
  have th := h.th c hc
  rw [e] at nd th
  refine ⟨⟨h.ok, h.tl, h.ts, h.cls, fun d hd => ?_, fun d hd y hy => ?_, fun d hd => ?_⟩, h.ch c hc x (by rw [e]; simp), (List.nodup_cons.1 nd).1, th.1⟩
  · by_cases q : d = c
    · subst q; rw [upN_at]; exact (List.nodup_cons.1 nd).2
    · rw [upN_ne _ _ q]; exact h.nd d hd
  · by_cases q : d = c
    · subst q; rw [upN_at] at hy; exact h.ch d hd y (by rw [e]; simp [hy])
    · rw [upN_ne _ _ q] at hy; exact h.ch d hd y hy
  · by_cases q : d = c
    · subst q; rw [upN_at]; exact th.2
    · rw [upN_ne _ _ q]; exact h.th d hd
/-- a list emptied -/
theorem SLI.clear (h : SLI s T L) (c : Nat) : SLI s T (upN L c []) := by
  refine ⟨h.ok, h.tl, h.ts, h.cls, fun d hd => ?_, fun d hd y hy => ?_, fun d hd => ?_⟩
  · by_cases q : d = c
    · subst q; rw [upN_at]; exact List.nodup_nil
    · rw [upN_ne _ _ q]; exact h.nd d hd
  · by_cases q : d = c
    · subst q; rw [upN_at] at hy; cases hy
    · rw [upN_ne _ _ q] at hy; exact h.ch d hd y hy
  · by_cases q : d = c
    · subst q; rw [upN_at]; exact trivial
    · rw [upN_ne _ _ q]; exact h.th d hd
/-- a chunk laid ahead of its class's list -/
theorem SLI.push (h : SLI s T L) (hc : c < T.length) (hx : Chk s.own T c x) (hn : x ∉ L c) : setPlace s (x : Int) (hdI (L c)) = (sp s (x : Int) (hdI (L c)), 0) ∧ (sp s (x : Int) (hdI (L c))).own = s.own ∧
    SLI (sp s (x : Int) (hdI (L c))) T (upN L c (x :: L c)) ∧ Fr T s L (sp s (x : Int) (hdI (L c))) (upN L c (x :: L c)) (· = x) := by
  have hw := hx.within (s := s) 4 (by decide) (by have := h.ts c hc; omega)
  obtain ⟨e, hl, hp⟩ := sp_spec h.ok hw (hd_pl h hc)
  have t4 := h.ts c hc
  obtain ⟨k, f⟩ := h.lay hc hx hn hl fun i hi => by omega
  have eo := hl.own
  refine ⟨e, eo, ⟨k.ok, k.tl, k.ts, k.cls, fun d hd => ?_, fun d hd y hy => ?_, fun d hd => ?_⟩, fun d hd y h1 h2 h3 => ?_⟩
  · by_cases q : d = c
    · subst q; rw [upN_at]; exact List.nodup_cons.2 ⟨hn, h.nd d hd⟩
    · rw [upN_ne _ _ q]; exact h.nd d hd
  · by_cases q : d = c
    · subst q
      rw [upN_at] at hy
      rcases List.mem_cons.1 hy with rfl | hy
      · rw [eo]; exact hx
      · exact k.ch d hd y hy
    · rw [upN_ne _ _ q] at hy; exact k.ch d hd y hy
  · by_cases q : d = c
    · subst q; rw [upN_at]; exact ⟨hp, k.th d hd⟩
    · rw [upN_ne _ _ q]; exact k.th d hd
  · obtain ⟨a1, a2, a3⟩ := f d hd y h1 h2 h3
    refine ⟨a1, ?_, a3⟩
    by_cases q : d = c
    · subst q; rw [upN_at]; exact fun m => by
        rcases List.mem_cons.1 m with m | m
        · exact h3 m
        · exact h2 m
    · rw [upN_ne _ _ q]; exact h2
/-- bytes written into a chunk that is in no list -/
theorem SLI.fill (h : SLI s T L) (hc : c < T.length) (hx : Chk s.own T c x) (hn : x ∉ L c) {bs : List Int} (hb : Bytes bs) (hl : bs.length ≤ tz T c) : write s (x : Int) bs = (ArenaPure.lay s (x : Int) bs, 0) ∧
    SLI (ArenaPure.lay s (x : Int) bs) T L ∧ Fr T s L (ArenaPure.lay s (x : Int) bs) L (· = x) ∧ got (ArenaPure.lay s (x : Int) bs) (x : Int) bs.length = bs := by
  have hw := hx.within (s := s) (bs.length : Int) (by omega) (by omega)
  have M := in_row h.ok hw
  have O := lay_ok h.ok (at_ := (x : Int)) (l := bs) (by omega) hb
  have ll : Lay s (ArenaPure.lay s (x : Int) bs) (fun i => x ≤ i ∧ i < x + bs.length) := ⟨O, rfl, fun i hi => by
    show (splice s.B (x : Int).toNat bs)[i]? = _
    rw [splice_get _ _ _ (by omega), if_neg (by omega)]⟩
  obtain ⟨k, f⟩ := h.lay hc hx hn ll fun i hi => ⟨hi.1, by omega⟩
  refine ⟨by unfold write; rw [if_pos hw], k, f, ?_⟩
  show ((splice s.B (x : Int).toNat bs).drop (x : Int).toNat).take ((bs.length : Int)).toNat = _
  exact splice_in _ _ _ _ _ (by omega) rfl (by omega)
theorem set_getI (l : List Int) {k : Nat} (hk : k < l.length) (v : Int) (j : Nat) : (l.set k v).getD j 0 = if j = k then v else l.getD j 0 := by
  rw [List.getD_eq_getElem?_getD, List.getElem?_set]
  by_cases e : j = k
  · subst e; rw [if_pos rfl, if_pos rfl, if_pos hk]; rfl
  · rw [if_neg (Ne.symm e), if_neg e, List.getD_eq_getElem?_getD]
theorem Chk.set {v : Int} (h : Chk own T c x) (hp : x / 1024 ≠ p) (hl : p < own.length) : Chk (own.set p v) T c x :=
  ⟨by rw [List.length_set]; exact h.pg, by rw [set_getI _ hl, if_neg hp]; exact h.cls, h.al, h.fit⟩
theorem first_neg (own : List Int) (h : first own < own.length) : own.getD (first own) 0 < 0 := by
  have h2 : decide (own[first own] < 0) = true := List.findIdx_getElem (w := h)
  rw [List.getD_eq_getElem?_getD, List.getElem?_eq_getElem h]
  exact of_decide_eq_true h2
/-- a page granted -/
theorem SLI.grant (h : SLI s T L) (hc : c < T.length) (hf : first s.own < s.own.length) : ∃ t, grant s (c : Int) = (t, ((first s.own : Nat) : Int), 0) ∧ t.own = s.own.set (first s.own) (c : Int) ∧ SLI t T L ∧ Fr T s L t L (fun _ => False) := by
  have tl := h.tl
  have e : ArenaPure.grant s (c : Int) = (⟨s.own.set (first s.own) (c : Int), splice s.B (1024 * first s.own) Z1024⟩, (first s.own : Int), 0) := by
    unfold ArenaPure.grant
    rw [if_neg (by omega), if_pos hf]
  have ok := Item.grant_ok h.ok (c : Int)
  rw [e] at ok
  have neg := first_neg s.own hf
  have hlen := h.ok.len
  have hz := Z1024_length
  have off : ∀ (y n : Nat), y / 1024 ≠ first s.own → y % 1024 + n ≤ 1024 → got ⟨s.own.set (first s.own) (c : Int), splice s.B (1024 * first s.own) Z1024⟩ (y : Int) (n : Int) = got s (y : Int) (n : Int) := fun y n hy hn => by
    unfold got
    exact splice_off _ _ _ _ _ (by omega) (by omega)
  have pgs : ∀ d y, Chk s.own T d y → y / 1024 ≠ first s.own := fun d y hy e => by
    have := hy.cls
    rw [e] at this
    omega
  refine ⟨_, e, rfl, ?_, ?_⟩
  · refine ⟨ok, h.tl, h.ts, fun p hp => ?_, h.nd, fun d hd y hy => (h.ch d hd y hy).set (pgs d y (h.ch d hd y hy)) hf, fun d hd => ?_⟩
    · show (s.own.set (first s.own) (c : Int)).getD p 0 < _
      rw [set_getI _ hf]
      split
      · omega
      · exact h.cls p (by rw [← List.length_set (i := first s.own) (a := (c : Int))]; exact hp)
    · have go : ∀ l : List Nat, (∀ y ∈ l, Chk s.own T d y) → Thr s l → Thr ⟨s.own.set (first s.own) (c : Int), splice s.B (1024 * first s.own) Z1024⟩ l := by
        intro l
        induction l with
        | nil => intro _ _; trivial
        | cons y l ih =>
          intro hl ht
          refine ⟨?_, ih (fun z hz => hl z (by simp [hz])) ht.2⟩
          rw [← ht.1]
          have hy := hl y (by simp)
          have t4 := h.ts d hd
          have w1 := hy.within (s := s) 4 (by decide) (by omega)
          have w2 := Chk.within (s := ⟨s.own.set (first s.own) (c : Int), splice s.B (1024 * first s.own) Z1024⟩) (hy.set (v := (c : Int)) (pgs d y hy) hf) 4 (by decide) (by omega)
          unfold place
          rw [if_pos w1, if_pos w2]
          have := off y 4 (pgs d y hy) (by have := hy.fit; omega)
          rw [show ((4 : Nat) : Int) = 4 from rfl] at this
          rw [this]
      exact go _ (h.ch d hd) (h.th d hd)
  · exact fun d hd y h1 h2 _ => ⟨h1.set (pgs d y h1) hf, h2, off y (tz T d) (pgs d y h1) h1.fit⟩
/-- a page given back of which no chunk is in a list -/
theorem SLI.ret (h : SLI s T L) (hp : p < s.own.length) (h0 : 0 ≤ s.own.getD p 0) (hl : ∀ d, d < T.length → ∀ x ∈ L d, x / 1024 ≠ p) : ∃ t, ret s (p : Int) = (t, 0) ∧ t.own = s.own.set p (-1) ∧ SLI t T L ∧ Fr T s L t L (fun x => x / 1024 = p) := by
  have e : ArenaPure.ret s (p : Int) = (⟨s.own.set p (-1), s.B⟩, 0) := by
    unfold ArenaPure.ret
    rw [if_neg (by omega), if_neg (by rw [Int.toNat_natCast]; omega), Int.toNat_natCast]
  refine ⟨_, e, rfl, ⟨⟨by rw [List.length_set]; exact h.ok.low, by rw [List.length_set]; exact h.ok.high, by rw [List.length_set]; exact h.ok.len, h.ok.bytes, fun i hi => ?_⟩, h.tl, h.ts, fun q hq => ?_, h.nd, fun d hd y hy => (h.ch d hd y hy).set (hl d hd y hy) hp, fun d hd => ?_⟩, fun d hd y h1 h2 h3 => ⟨h1.set h3 hp, h2, rfl⟩⟩
  · show -1 ≤ (s.own.set p (-1)).getD i 0 ∧ (s.own.set p (-1)).getD i 0 < 8
    rw [set_getI _ hp]
    split
    · decide
    · exact h.ok.cls i (by rw [← List.length_set (i := p) (a := (-1 : Int))]; exact hi)
  · show (s.own.set p (-1)).getD q 0 < _
    rw [set_getI _ hp]
    split
    · omega
    · exact h.cls q (by rw [← List.length_set (i := p) (a := (-1 : Int))]; exact hq)
  · have go : ∀ l : List Nat, (∀ y ∈ l, Chk s.own T d y ∧ y / 1024 ≠ p) → Thr s l → Thr ⟨s.own.set p (-1), s.B⟩ l := by
      intro l
      induction l with
      | nil => intro _ _; trivial
      | cons y l ih =>
        intro hl2 ht
        refine ⟨?_, ih (fun z hz => hl2 z (by simp [hz])) ht.2⟩
        rw [← ht.1]
        obtain ⟨hy, hy2⟩ := hl2 y (by simp)
        have t4 := h.ts d hd
        have w1 := hy.within (s := s) 4 (by decide) (by omega)
        have w2 := Chk.within (s := ⟨s.own.set p (-1), s.B⟩) (hy.set (v := -1) hy2 hp) 4 (by decide) (by omega)
        unfold place
        rw [if_pos w1, if_pos w2]; rfl
    exact go _ (fun y hy => ⟨h.ch d hd y hy, hl d hd y hy⟩) (h.th d hd)
/-- a page's chunks -/
def chl (T : List Nat) (c p : Nat) : List Nat := (List.range (1024 / tz T c)).map fun i => 1024 * p + i * tz T c
theorem chl_len (T : List Nat) (c p : Nat) : (chl T c p).length = 1024 / tz T c := by unfold chl; rw [List.length_map, List.length_range]
theorem chl_at {i : Nat} (hi : i < 1024 / tz T c) : (1024 * p + i * tz T c) / 1024 = p ∧ (1024 * p + i * tz T c) % 1024 = i * tz T c ∧ i * tz T c + tz T c ≤ 1024 ∧ 0 < tz T c := by
  have hz : 0 < tz T c := by
    rcases Nat.eq_zero_or_pos (tz T c) with e | e
    · rw [e, Nat.div_zero] at hi; omega
    · exact e
  have h1 : (i + 1) * tz T c ≤ 1024 := by
    have := Nat.div_mul_le_self 1024 (tz T c)
    exact Nat.le_trans (Nat.mul_le_mul_right _ hi) this
  rw [Nat.add_mul, Nat.one_mul] at h1
  generalize i * tz T c = m at h1
  omega
theorem chl_chk (hp : p < own.length) (ho : own.getD p 0 = (c : Int)) (h : x ∈ chl T c p) : Chk own T c x := by
  obtain ⟨i, hi, rfl⟩ := List.mem_map.1 h
  obtain ⟨a1, a2, a3, a4⟩ := chl_at (p := p) (List.mem_range.1 hi)
  exact ⟨by rw [a1]; exact hp, by rw [a1]; exact ho, by rw [a2]; exact Nat.mul_mod_left _ _, by rw [a2]; exact a3⟩
theorem chl_page (h : x ∈ chl T c p) : x / 1024 = p := by
  obtain ⟨i, hi, rfl⟩ := List.mem_map.1 h
  exact (chl_at (List.mem_range.1 hi)).1
theorem chl_of (h : Chk own T c x) (hz : 0 < tz T c) : x ∈ chl T c (x / 1024) := by
  have h1 := Nat.div_add_mod (x % 1024) (tz T c)
  rw [h.al, Nat.add_zero] at h1
  have h2 := h.fit
  refine List.mem_map.2 ⟨x % 1024 / tz T c, List.mem_range.2 ?_, ?_⟩
  · refine Nat.lt_of_lt_of_le (Nat.lt_succ_self _) ((Nat.le_div_iff_mul_le hz).2 ?_)
    rw [Nat.succ_mul, Nat.mul_comm, h1]
    exact h2
  · rw [Nat.mul_comm, Nat.mul_comm _ (tz T c), h1]
    omega
theorem chl_nodup (T : List Nat) (c p : Nat) : (chl T c p).Nodup := by
  unfold chl
  refine List.Pairwise.map _ (fun i j hij e => ?_) (List.Pairwise.imp_of_mem (fun {a b} ha hb q => (⟨q, List.mem_range.1 ha⟩ : a ≠ b ∧ a < 1024 / tz T c)) List.nodup_range)
  obtain ⟨ne, hi⟩ := hij
  have := (chl_at (p := p) hi).2.2.2
  have : i * tz T c = j * tz T c := by omega
  exact ne (Nat.eq_of_mul_eq_mul_right (by assumption) this)
end Go.Proofs.Ytmffdlebahdihaa.Slab

/- Chapter 07 in plain words: what the acts do to the lists. -/
namespace Go.Proofs.Ytmffdlebahdihaa.Slab
open Go Go.RowKit Go.Proofs.Ytmffdlebahdihaa.Mem Go.Proofs.Ytmffdlebahdihaa.CodecPure Go.Proofs.Ytmffdlebahdihaa.ArenaPure Go.Proofs.Ytmffdlebahdihaa.Codec
set_option linter.unusedVariables false
set_option maxRecDepth 100000
variable {s t : St} {T : List Nat} {L : Nat → List Nat} {c d x y p : Nat} {own : List Int} {l : List Nat}
def zs (n : Nat) : List Int := List.replicate n 0
theorem zs_len (n : Nat) : (zs n).length = n := List.length_replicate
theorem zs_bytes (n : Nat) : Bytes (zs n) := fun x hx => by
  have := List.eq_of_mem_replicate hx
  omega
/-- a list's first chunk taken and cleared -/
theorem SLI.take (h : SLI s T L) (hc : c < T.length) (e : L c = x :: l) : place s (x : Int) = (hdI l, 0) ∧ write s (x : Int) (zs (tz T c)) = (ArenaPure.lay s (x : Int) (zs (tz T c)), 0) ∧
    SLI (ArenaPure.lay s (x : Int) (zs (tz T c))) T (upN L c l) ∧ Fr T s L (ArenaPure.lay s (x : Int) (zs (tz T c))) (upN L c l) (fun _ => False) ∧
    got (ArenaPure.lay s (x : Int) (zs (tz T c))) (x : Int) (tz T c) = zs (tz T c) := by
  obtain ⟨h1, h2, h3, h4⟩ := h.pop hc e
  obtain ⟨f1, f2, f3, f4⟩ := h1.fill hc h2 (by rw [upN_at]; exact h3) (zs_bytes (tz T c)) (by rw [zs_len]; exact Nat.le_refl _)
  rw [zs_len] at f4
  refine ⟨h4, f1, f2, fun d hd y a1 a2 _ => f3 d hd y a1 ?_ ?_, f4⟩
  · by_cases q : d = c
    · subst q; rw [upN_at]; intro hm; exact a2 (by rw [e]; exact List.mem_cons_of_mem _ hm)
    · rw [upN_ne _ _ q]; exact a2
  · intro q
    subst q
    have hm : y ∈ L c := by rw [e]; exact List.mem_cons_self
    have := h.not_other a1 hc hm
    subst this
    exact a2 hm
/-- a page that was free has no chunk in a list -/
theorem SLI.not_free (h : SLI s T L) (hn : s.own.getD p 0 < 0) (hx : Chk s.own T c x) : x / 1024 ≠ p := fun e => by
  have := hx.cls
  rw [e] at this
  omega
/-- a class's list without some chunks -/
theorem SLI.sub (h : SLI s T L) (hc : c < T.length) (hs : l.Sublist (L c)) (ht : Thr s l) : SLI s T (upN L c l) := by
  refine ⟨h.ok, h.tl, h.ts, h.cls, fun d hd => ?_, fun d hd y hy => ?_, fun d hd => ?_⟩
  · by_cases q : d = c
    · subst q; rw [upN_at]; exact (h.nd d hd).sublist hs
    · rw [upN_ne _ _ q]; exact h.nd d hd
  · by_cases q : d = c
    · subst q; rw [upN_at] at hy; exact h.ch d hd y (hs.subset hy)
    · rw [upN_ne _ _ q] at hy; exact h.ch d hd y hy
  · by_cases q : d = c
    · subst q; rw [upN_at]; exact ht
    · rw [upN_ne _ _ q]; exact h.th d hd
theorem chl_pos (h1 : 4 ≤ tz T c) (h2 : tz T c ≤ 1024) : ∃ l, chl T c p = 1024 * p :: l := by
  unfold chl
  obtain ⟨n, hn⟩ : ∃ n, 1024 / tz T c = n + 1 := ⟨1024 / tz T c - 1, by have := (Nat.le_div_iff_mul_le (show 0 < tz T c by omega)).2 (show 1 * tz T c ≤ 1024 by omega); omega⟩
  rw [hn, List.range_succ_eq_map, List.map_cons, Nat.zero_mul, Nat.add_zero]
  exact ⟨_, rfl⟩
theorem Fr.same {M : Nat → List Nat} (h : Fr T s L t M (fun _ => False)) (hc : c < T.length) (hx : Chk s.own T c x) (hn : x ∉ L c) : Chk t.own T c x ∧ x ∉ M c ∧ got t (x : Int) (tz T c) = got s (x : Int) (tz T c) := h c hc x hx hn id
end Go.Proofs.Ytmffdlebahdihaa.Slab

/- The program's chunks in memory; class, push. -/
namespace Go.Proofs.Ytmffdlebahdihaa.Slab
open Go Go.RowKit Go.Proofs.Ytmffdlebahdihaa.Mem Go.Proofs.Ytmffdlebahdihaa.CodecPure Go.Proofs.Ytmffdlebahdihaa.ArenaPure Go.Proofs.Ytmffdlebahdihaa.Codec Go.Proofs.Ytmffdlebahdihaa.Arena Go.Proofs.Ytmffdlebahdihaa.Item
set_option linter.unusedVariables false
set_option maxRecDepth 100000
variable {w w' : World} {a : Ar} {s s' : St} {T : List Nat} {L : Nat → List Nat} {H : List Int} {c : Nat}
/-- the header, the rows of sizes and of heads -/
structure Sh where
  b : Nat
  t : Nat
  tc : Nat
  h : Nat
  hc : Nat
def Ti (T : List Nat) : List Int := T.map fun (x : Nat) => (x : Int)
def hds (T : List Nat) (L : Nat → List Nat) : List Int := (List.range T.length).map fun c => hdI (L c)
structure WB (w : World) (a : Ar) (h : Sh) (s : St) (T : List Nat) (H : List Int) : Prop where
  lies : Lies w a s
  n1 : T.length ≤ 8
  head : w.heap[h.b]? = some (.cells #[(.pointer (some ⟨a.g, 0, none⟩)), .slice (some ⟨h.t, 0, none⟩) T.length h.tc, .slice (some ⟨h.h, 0, none⟩) T.length h.hc] 84 (0, 0))
  tab : Mem.Own w 0 3 .i64 (.slice (some ⟨h.t, 0, none⟩) T.length h.tc) (Ti T)
  hd : Mem.Own w 0 3 .i64 (.slice (some ⟨h.h, 0, none⟩) T.length h.hc) H
  hl : H.length = T.length
  off : ∀ x, x = h.b ∨ x = h.t ∨ x = h.h → x ≠ a.g ∧ x ≠ a.ps ∧ x ∉ a.pb
  dis : h.b ≠ h.t ∧ h.b ≠ h.h ∧ h.t ≠ h.h
variable {h : Sh}
/-- the blocks that the acts write -/
def S7 (a : Ar) (h : Sh) (x : Nat) : Prop := x ∈ a.pb ∨ x = h.h
theorem WB.fresh (k : WB w a h s T H) (hc : Chg (fun _ => False) w w') : WB w' a h s T H :=
  ⟨k.lies.chg hc id id fun _ _ => id, k.n1, hc.keep k.head id, k.tab.chg hc fun _ _ => id, k.hd.chg hc fun _ _ => id, k.hl, k.off, k.dis⟩
theorem WB.c0 (k : WB w a h s T H) : w.cell? ⟨h.b, 0, none⟩ = some (.pointer (some ⟨a.g, 0, none⟩)) := by rw [blk_cell k.head]; rfl
theorem WB.c1 (k : WB w a h s T H) : w.cell? ⟨h.b, 1, none⟩ = some (.slice (some ⟨h.t, 0, none⟩) T.length h.tc) := by rw [blk_cell k.head]; rfl
theorem WB.c2 (k : WB w a h s T H) : w.cell? ⟨h.b, 2, none⟩ = some (.slice (some ⟨h.h, 0, none⟩) T.length h.hc) := by rw [blk_cell k.head]; rfl
theorem ti_len (T : List Nat) : (Ti T).length = T.length := List.length_map _
theorem ti_at (T : List Nat) (c : Nat) : (Ti T).getD c 0 = (tz T c : Int) := by
  unfold Ti tz
  rw [List.getD_eq_getElem?_getD, List.getElem?_map, List.getD_eq_getElem?_getD]
  cases T[c]? <;> rfl
theorem WB.ct (k : WB w a h s T H) (hc : c < T.length) : w.cell? ⟨h.t, c, none⟩ = some (.int .i64 (tz T c : Int)) := by
  have := (k.tab.cellAt c (by rw [ti_len]; exact hc)).1
  rw [ti_at] at this
  exact this
theorem WB.ch (k : WB w a h s T H) (hc : c < T.length) : w.cell? ⟨h.h, c, none⟩ = some (.int .i64 (H.getD c 0)) ∧ w.frozen? ⟨h.h, c, none⟩ = false := k.hd.cellAt c (by rw [k.hl]; exact hc)
theorem WB.arena (k : WB w a h s T H) (hl : Lies w' a s') (hc : Chg (· ∈ a.pb) w w') : WB w' a h s' T H ∧ Chg (S7 a h) w w' :=
  ⟨⟨hl, k.n1, hc.keep k.head (k.off _ (.inl rfl)).2.2, k.tab.chg hc fun g e => by simp [Value.ownBlock] at e; subst e; exact (k.off _ (.inr (.inl rfl))).2.2, k.hd.chg hc fun g e => by simp [Value.ownBlock] at e; subst e; exact (k.off _ (.inr (.inr rfl))).2.2, k.hl, k.off, k.dis⟩, hc.mono fun _ _ q => .inl q⟩
theorem WB.store (k : WB w a h s T H) (hc : c < T.length) (v : Int) : WB (w.setCell ⟨h.h, c, none⟩ (.int .i64 v)) a h s T (H.set c v) ∧ Chg (S7 a h) w (w.setCell ⟨h.h, c, none⟩ (.int .i64 v)) := by
  have hcg : Chg (fun x => x = h.h) w (w.setCell ⟨h.h, c, none⟩ (.int .i64 v)) := Chg.setCell w _ _ rfl
  have o := k.off h.h (.inr (.inr rfl))
  exact ⟨⟨k.lies.chg hcg o.1.symm o.2.1.symm fun b hb e => o.2.2 (e ▸ hb), k.n1, hcg.keep k.head k.dis.2.1, k.tab.chg hcg fun g e => by simp [Value.ownBlock] at e; subst e; exact k.dis.2.2, k.hd.setc c (by rw [k.hl]; exact hc) v, by rw [List.length_set]; exact k.hl, k.off, k.dis⟩, hcg.mono fun _ _ q => .inr q⟩
theorem hds_len (T : List Nat) (L : Nat → List Nat) : (hds T L).length = T.length := by unfold hds; rw [List.length_map, List.length_range]
theorem hds_at (L : Nat → List Nat) (hc : c < T.length) : (hds T L).getD c 0 = hdI (L c) := by
  unfold hds
  rw [List.getD_eq_getElem?_getD, List.getElem?_map, List.getElem?_range hc]; rfl
theorem hds_set (L : Nat → List Nat) (hc : c < T.length) (l : List Nat) : (hds T L).set c (hdI l) = hds T (upN L c l) := by
  apply List.ext_getElem?
  intro j
  rw [List.getElem?_set, hds_len]
  by_cases e : c = j
  · subst e
    rw [if_pos rfl, if_pos hc]
    unfold hds
    rw [List.getElem?_map, List.getElem?_range hc]
    show _ = some (hdI (upN L c l c))
    rw [upN_at]
  · rw [if_neg e]
    unfold hds
    rw [List.getElem?_map, List.getElem?_map]
    by_cases q : j < T.length
    · rw [List.getElem?_range q]
      show some (hdI (L j)) = some (hdI (upN L c l j))
      rw [upN_ne _ _ (Ne.symm e)]
    · rw [List.getElem?_eq_none (by rw [List.length_range]; omega)]; rfl
theorem class_calls (k : WB w a h s T H) (n : Int) : Calls Try.prog 51 #[(.pointer (some ⟨h.b, 0, none⟩)), (.int .i64 n)] w fun e w' => e = .returned (.bool (decide (0 ≤ n ∧ n < T.length))) ∧ w' = w := by
  have c1 := k.c1
  have n1 := k.n1
  clear k
  by_cases h0 : 0 ≤ n
  · by_cases h1 : n < T.length
    · rw [decide_eq_true ⟨h0, h1⟩]
      go_enter Try.func51, Try.ntmps51
      go_wp2_with fail
      go_ret
      exact ⟨rfl, rfl⟩
    · rw [decide_eq_false fun q => h1 q.2]
      go_enter Try.func51, Try.ntmps51
      go_wp2_with fail
      go_ret
      exact ⟨rfl, rfl⟩
  · rw [decide_eq_false fun q => h0 q.1]
    go_enter Try.func51, Try.ntmps51
    go_wp2_with fail
    go_ret
    exact ⟨rfl, rfl⟩
theorem push_calls (k : WB w a h s T H) (hc : c < T.length) (x : Int) (hx : -9223372036854775808 ≤ x ∧ x ≤ 9223372036854775807) (hv : -9223372036854775808 ≤ H.getD c 0 ∧ H.getD c 0 ≤ 9223372036854775807) :
    Calls Try.prog 45 #[(.pointer (some ⟨h.b, 0, none⟩)), (.int .i64 ((c : Int))), (.int .i64 x)] w fun e w' => e = .returned (.tuple #[]) ∧ WB w' a h (setPlace s x (H.getD c 0)).1 T (H.set c x) ∧ Chg (S7 a h) w w' := by
  have c0 := k.c0
  have c2 := k.c2
  have ch := (k.ch hc).1
  have n1 := k.n1
  have hc' : (c : Int) < (T.length : Int) := by omega
  have SC := Lib.hid (setplace_calls (k.fresh (Chg.drew _ w)).lies x (H.getD c 0) hx hv)
  have AR : Hid (∀ s' W, Lies W a s' → Chg (· ∈ a.pb) w.drew W → WB W a h s' T H ∧ Chg (S7 a h) w W) := fun s' W h1 h2 => by
    obtain ⟨k1, k2⟩ := (k.fresh (Chg.drew _ w)).arena h1 h2
    exact ⟨k1, (Chg.drew _ w).trans k2⟩
  have HC := Lib.hid hc
  generalize hhv : H.getD c 0 = hv0 at *
  replace hhv := Lib.hid hhv
  generalize setPlace s x hv0 = q at SC ⊢
  generalize hN : T.length = N at c2 hc' n1
  replace hN := Lib.hid hN
  clear k hv hc
  go_enter Try.func45, Try.ntmps45
  go_wp2_with fail
  go_region_held3 (fun w' => w'.cell? ⟨h.b, 0, none⟩ = some (.pointer (some ⟨a.g, 0, none⟩)) ∧ w'.cell? ⟨h.b, 2, none⟩ = some (.slice (some ⟨h.h, 0, none⟩) N h.hc) ∧ w'.cell? ⟨h.h, c, none⟩ = some (.int .i64 hv0)) (go_keep)
    (first
      | (go_at_call 77; refine SC.out.mono ?_; rintro e w3 ⟨rfl, l3, g3⟩; have K3 := Lib.hid (AR.out _ _ l3 g3); have m0 := K3.out.1.c0; have m2 := K3.out.1.c2; rw [hN.out] at m2; obtain ⟨mh, mf⟩ := K3.out.1.ch HC.out; rw [hhv.out] at mh; clear l3 g3; skip))
  obtain ⟨K4, g4⟩ := K3.out.1.store HC.out x
  have K5 := Lib.hid (And.intro K4 (K3.out.2.trans g4))
  clear K4 g4 m0 SC AR
  go_wp2_with fail
  go_end0
  exact ⟨rfl, K5.out⟩
/-- chunks of the call's own -/
structure SX (B : Nat) (w0 w : World) (a : Ar) (h : Sh) (T : List Nat) (s : St) (L : Nat → List Nat) : Prop where
  wb : WB w a h s T (hds T L)
  inv : SLI s T L
  chg : Chg (fun b => B ≤ b) w0 w
  low : ∀ x, S7 a h x → B ≤ x
variable {B : Nat} {w0 : World} {x : Nat}
theorem SX.fresh (k : SX B w0 w a h T s L) (hc : Chg (fun _ => False) w w') : SX B w0 w' a h T s L := ⟨k.wb.fresh hc, k.inv, k.chg.trans (hc.mono fun _ _ h => h.elim), k.low⟩
/-- an act: the answer, the state and the lists behind it, what used chunks keep, what has turned -/
def XEnd (B : Nat) (w0 w : World) (a : Ar) (h : Sh) (T : List Nat) (s : St) (L : Nat → List Nat) (own : List Int) (M : Nat → List Nat) (E : Nat → Prop) (v : Value) (e : Ending) (w' : World) : Prop :=
  e = .returned v ∧ ∃ t, SX B w0 w' a h T t M ∧ t.own = own ∧ Fr T s L t M E ∧ Chg (S7 a h) w w'
theorem SX.same {v : Value} {e : Ending} {E : Nat → Prop} (k : SX B w0 w a h T s L) (he : e = .returned v) (hc : Chg (fun _ => False) w w') : XEnd B w0 w a h T s L s.own L E v e w' :=
  ⟨he, s, k.fresh hc, rfl, Fr.refl _ _ _ _, hc.mono fun _ _ h => h.elim⟩
theorem SX.next {t : St} {M : Nat → List Nat} (k : SX B w0 w a h T s L) (hw : WB w' a h t T (hds T M)) (hi : SLI t T M) (hc : Chg (S7 a h) w w') : SX B w0 w' a h T t M :=
  ⟨hw, hi, k.chg.trans (hc.mono fun x _ hx => k.low x hx), k.low⟩
theorem hd_i64 {s : St} (h : SLI s T L) (hc : c < T.length) : -9223372036854775808 ≤ hdI (L c) ∧ hdI (L c) ≤ 9223372036854775807 := by
  have := hd_pl h hc
  unfold Pl at this
  omega
theorem SX.push (k : SX B w0 w a h T s L) (hc : c < T.length) (hx : Chk s.own T c x) (hn : x ∉ L c) : Calls Try.prog 45 #[(.pointer (some ⟨h.b, 0, none⟩)), (.int .i64 ((c : Int))), (.int .i64 ((x : Int)))] w (XEnd B w0 w a h T s L s.own (upN L c (x :: L c)) (· = x) (.tuple #[])) := by
  have xl := k.inv.lt hx
  have P := push_calls k.wb hc (x : Int) (by omega) (by rw [hds_at L hc]; exact hd_i64 k.inv hc)
  obtain ⟨e1, e2, e3, e4⟩ := k.inv.push hc hx hn
  rw [hds_at L hc, e1] at P
  exact P.mono fun e w' ⟨h1, h2, h3⟩ => ⟨h1, _, k.next (by rw [← hds_set L hc]; exact h2) e3 h3, e2, e4, h3⟩
end Go.Proofs.Ytmffdlebahdihaa.Slab

/- The program's chunks: Class, Chunks. -/
namespace Go.Proofs.Ytmffdlebahdihaa.Slab
open Go Go.RowKit Go.Proofs.Ytmffdlebahdihaa.Mem Go.Proofs.Ytmffdlebahdihaa.CodecPure Go.Proofs.Ytmffdlebahdihaa.ArenaPure Go.Proofs.Ytmffdlebahdihaa.Codec Go.Proofs.Ytmffdlebahdihaa.Arena Go.Proofs.Ytmffdlebahdihaa.Item
set_option linter.unusedVariables false
set_option maxRecDepth 100000
variable {B : Nat} {w0 w w' : World} {a : Ar} {h : Sh} {s s' : St} {T : List Nat} {L : Nat → List Nat} {H : List Int} {c p x : Nat}
theorem perpage_calls (z : Nat) (hz : 0 < z) (hz2 : z ≤ 1024) (w : World) : Calls Try.prog 57 #[(.int .i64 ((z : Int)))] w fun e w' => e = .returned (.int .i64 ((1024 / z : Nat) : Int)) ∧ w' = w := by
  have h1 : ¬ (z : Int) < 1 := by omega
  have h2 : ((z : Int) == 0) = false := by rw [beq_eq_false_iff_ne]; omega
  obtain ⟨q, hq⟩ : ∃ q : Nat, 1024 / z = q := ⟨_, rfl⟩
  have hq2 : q ≤ 1024 := by rw [← hq]; exact Nat.div_le_self _ _
  have h3 : (1024 : Int) / (z : Int) = (q : Int) := by rw [← hq]; rfl
  have h4 : (1024 : Int).tdiv (z : Int) = (q : Int) := by rw [← hq]; rfl
  rw [hq]
  clear hq
  go_enter Try.func57, Try.ntmps57
  go_wp2_with fail
  go_ret
  exact ⟨rfl, rfl⟩
set_option maxHeartbeats 1000000 in
theorem class_ok (k : WB w a h s T H) (i : SLI s T L) (hc : c < T.length) (hx : Chk s.own T c x) : Calls Try.prog 19 #[(.pointer (some ⟨h.b, 0, none⟩)), (.int .i64 ((x : Int)))] w (Ans2 w (c : Int) 0) := by
  have xl := i.lt hx
  have ts := i.ts c hc
  have pg := hx.pg
  have OC := owner_calls k.lies ((x / 1024 : Nat) : Int)
  have CC := Lib.hid (class_calls k (c : Int))
  have c0 := k.c0
  have c1 := k.c1
  have ct := k.ct hc
  have n1 := k.n1
  have eo : owner s ((x / 1024 : Nat) : Int) = ((c : Int), 0) := by
    unfold owner
    rw [if_neg (by omega), Int.toNat_natCast, hx.cls]
  rw [eo] at OC
  replace OC := Lib.hid OC
  have q1 : (x : Int).tdiv 1024 = ((x / 1024 : Nat) : Int) := rfl
  have q2 : (x : Int).tmod 1024 = ((x % 1024 : Nat) : Int) := rfl
  have q4 : (x : Int) / 1024 = ((x / 1024 : Nat) : Int) := rfl
  have q5 : (x : Int) % 1024 = ((x % 1024 : Nat) : Int) := rfl
  have al := hx.al
  have fit := hx.fit
  have q3 : ((x % 1024 : Nat) : Int).tmod (tz T c : Int) = 0 := by show ((x % 1024 % tz T c : Nat) : Int) = 0; rw [al]; rfl
  have q6 : ((x % 1024 : Nat) : Int) % (tz T c : Int) = 0 := by show ((x % 1024 % tz T c : Nat) : Int) = 0; rw [al]; rfl
  have hc' : (c : Int) < (T.length : Int) := by omega
  have dc : decide ((0 : Int) ≤ (c : Int) ∧ (c : Int) < (T.length : Int)) = true := decide_eq_true ⟨by omega, hc'⟩
  rw [dc] at CC
  generalize x % 1024 = m at *
  generalize tz T c = z at *
  generalize hN : T.length = N at *
  have x0 : ¬ (x : Int) < 0 := by omega
  have z0 : ((z : Int) == 0) = false := by rw [beq_eq_false_iff_ne]; omega
  have mz : ¬ (m : Int) + (z : Int) > 1024 := by omega
  clear k i hx pg dc al eo hN
  generalize x / 1024 = pp at *
  go_enter Try.func19, Try.ntmps19
  go_wp2_with fail
  refine OC.out.mono ?_
  rintro e w1 ⟨rfl, rfl⟩
  go_wp2_with fail
  refine CC.out.mono ?_
  rintro e w1 ⟨rfl, rfl⟩
  go_wp2_with fail
  go_quiet (fail)
  go_wp2_with fail
  go_ret2
  exact ⟨rfl, Chg.drewN _ _ _⟩
/-- no chunk begins there -/
def NoChk (own : List Int) (T : List Nat) (y : Int) : Prop := ∀ c, c < T.length → ∀ x : Nat, y = (x : Int) → ¬ Chk own T c x
set_option maxHeartbeats 1000000 in
theorem class_no (k : WB w a h s T H) (i : SLI s T L) (y : Int) (hy : -9223372036854775808 ≤ y ∧ y ≤ 9223372036854775807) (hn : NoChk s.own T y) : Calls Try.prog 19 #[(.pointer (some ⟨h.b, 0, none⟩)), (.int .i64 y)] w (Ans2 w 0 1) := by
  have n1 := k.n1
  by_cases y0 : y < 0
  · clear k i hn
    go_enter Try.func19, Try.ntmps19
    go_wp2_with fail
    go_ret2
    exact ⟨rfl, Chg.refl _ _⟩
  · obtain ⟨x, rfl⟩ := Int.eq_ofNat_of_zero_le (by omega : 0 ≤ y)
    have OC := owner_calls k.lies ((x / 1024 : Nat) : Int)
    have c0 := k.c0
    have c1 := k.c1
    have q1 : (x : Int).tdiv 1024 = ((x / 1024 : Nat) : Int) := rfl
    have q4 : (x : Int) / 1024 = ((x / 1024 : Nat) : Int) := rfl
    by_cases hp : x / 1024 < s.own.length
    · have cls := i.cls _ hp
      have CCf := fun n => class_calls k n
      have eo : owner s ((x / 1024 : Nat) : Int) = (s.own.getD (x / 1024) 0, 0) := by
        unfold owner
        rw [if_neg (by omega), Int.toNat_natCast]
      rw [eo] at OC
      replace OC := Lib.hid OC
      by_cases o0 : 0 ≤ s.own.getD (x / 1024) 0
      · obtain ⟨c, ec⟩ := Int.eq_ofNat_of_zero_le o0
        have hc : c < T.length := by omega
        have ct := k.ct hc
        have ts := i.ts c hc
        have nk := hn c hc x rfl
        have hch : ¬ (x % 1024 % tz T c = 0 ∧ x % 1024 + tz T c ≤ 1024) := fun q => nk ⟨hp, ec, q.1, q.2⟩
        have CC := CCf (c : Int)
        have hc' : (c : Int) < (T.length : Int) := by omega
        have dc : decide ((0 : Int) ≤ (c : Int) ∧ (c : Int) < (T.length : Int)) = true := decide_eq_true ⟨by omega, hc'⟩
        rw [dc] at CC
        rw [ec] at OC
        have q2 : (x : Int).tmod 1024 = ((x % 1024 : Nat) : Int) := rfl
        have q5 : (x : Int) % 1024 = ((x % 1024 : Nat) : Int) := rfl
        have q3 : ((x % 1024 : Nat) : Int).tmod (tz T c : Int) = ((x % 1024 % tz T c : Nat) : Int) := rfl
        have q6 : ((x % 1024 : Nat) : Int) % (tz T c : Int) = ((x % 1024 % tz T c : Nat) : Int) := rfl
        replace CC := Lib.hid CC
        have m10 : x % 1024 < 1024 := Nat.mod_lt _ (by decide)
        generalize x % 1024 = m at *
        generalize tz T c = z at *
        generalize m % z = mz at *
        generalize hN : T.length = N at *
        have z0 : ((z : Int) == 0) = false := by rw [beq_eq_false_iff_ne]; omega
        clear k i nk dc eo hN hn ec o0 cls hp CCf
        generalize x / 1024 = pp at *
        by_cases e0 : mz = 0
        · have e1 : (m : Int) + (z : Int) > 1024 := by omega
          subst e0
          clear hch
          go_enter Try.func19, Try.ntmps19
          go_wp2_with fail
          refine OC.out.mono ?_
          rintro e w1 ⟨rfl, rfl⟩
          go_wp2_with fail
          refine CC.out.mono ?_
          rintro e w1 ⟨rfl, rfl⟩
          go_wp2_with fail
          go_quiet (fail)
          go_wp2_with fail
          go_ret2
          exact ⟨rfl, Chg.drewN _ _ _⟩
        · have e1 : ¬ (mz : Int) = 0 := by omega
          have e2 : ((mz : Int) != 0) = true := by rw [bne_iff_ne]; exact e1
          clear hch
          go_enter Try.func19, Try.ntmps19
          go_wp2_with fail
          refine OC.out.mono ?_
          rintro e w1 ⟨rfl, rfl⟩
          go_wp2_with fail
          refine CC.out.mono ?_
          rintro e w1 ⟨rfl, rfl⟩
          go_wp2_with fail
          go_quiet (fail)
          go_wp2_with fail
          go_ret2
          exact ⟨rfl, Chg.drewN _ _ _⟩
      · have CC := CCf (s.own.getD (x / 1024) 0)
        rw [decide_eq_false fun q => o0 q.1] at CC
        generalize s.own.getD (x / 1024) 0 = o at *
        replace CC := Lib.hid CC
        clear k i hn c1 CCf eo hp cls
        generalize x / 1024 = pp at *
        go_enter Try.func19, Try.ntmps19
        go_wp2_with fail
        refine OC.out.mono ?_
        rintro e w1 ⟨rfl, rfl⟩
        go_wp2_with fail
        refine CC.out.mono ?_
        rintro e w1 ⟨rfl, rfl⟩
        go_wp2_with fail
        go_ret2
        exact ⟨rfl, Chg.refl _ _⟩
    · have eo : owner s ((x / 1024 : Nat) : Int) = (0, 1) := by
        unfold owner
        rw [if_pos (.inr (by omega))]
      rw [eo] at OC
      replace OC := Lib.hid OC
      clear k i hn c1 eo hp
      generalize x / 1024 = pp at *
      go_enter Try.func19, Try.ntmps19
      go_wp2_with fail
      refine OC.out.mono ?_
      rintro e w1 ⟨rfl, rfl⟩
      go_wp2_with fail
      go_ret2
      exact ⟨rfl, Chg.refl _ _⟩
end Go.Proofs.Ytmffdlebahdihaa.Slab

/- The program's chunks: Chunks. -/
namespace Go.Proofs.Ytmffdlebahdihaa.Slab
open Go Go.RowKit Go.Proofs.Ytmffdlebahdihaa.Mem Go.Proofs.Ytmffdlebahdihaa.CodecPure Go.Proofs.Ytmffdlebahdihaa.ArenaPure Go.Proofs.Ytmffdlebahdihaa.Codec Go.Proofs.Ytmffdlebahdihaa.Arena Go.Proofs.Ytmffdlebahdihaa.Item
set_option linter.unusedVariables false
set_option maxRecDepth 100000
variable {B : Nat} {w0 w w' : World} {a : Ar} {h : Sh} {s s' : St} {T : List Nat} {L : Nat → List Nat} {H : List Int} {c p x : Nat}
/-- no page's chunks -/
theorem chunks_no (k : WB w a h s T H) (i : SLI s T L) (n : Int) (hn : n < 0 ∨ (s.own.length : Int) ≤ n) : Calls Try.prog 26 #[(.pointer (some ⟨h.b, 0, none⟩)), (.int .i64 n)] w fun e w' => e = .returned (.tuple #[.slice none 0 0, .int .i64 1]) ∧ w' = w := by
  have OC := owner_calls k.lies n
  have c0 := k.c0
  have eo : owner s n = (0, 1) := by unfold owner; rw [if_pos hn]
  rw [eo] at OC
  replace OC := Lib.hid OC
  clear k i hn eo
  go_enter Try.func26, Try.ntmps26
  go_wp2_with fail
  refine OC.out.mono ?_
  rintro e w1 ⟨rfl, rfl⟩
  go_wp2_with fail
  go_ret2
  exact ⟨rfl, rfl⟩
theorem chunks_free (k : WB w a h s T H) (i : SLI s T L) (hp : p < s.own.length) (ho : s.own.getD p 0 < 0) : Calls Try.prog 26 #[(.pointer (some ⟨h.b, 0, none⟩)), (.int .i64 ((p : Int)))] w fun e w' => e = .returned (.tuple #[.slice none 0 0, .int .i64 5]) ∧ w' = w := by
  have OC := owner_calls k.lies (p : Int)
  have c0 := k.c0
  have CC := class_calls k (s.own.getD p 0)
  rw [decide_eq_false fun q => by omega] at CC
  have eo : owner s (p : Int) = (s.own.getD p 0, 0) := by unfold owner; rw [if_neg (by omega), Int.toNat_natCast]
  rw [eo] at OC
  replace OC := Lib.hid OC
  replace CC := Lib.hid CC
  clear k i hp eo
  generalize s.own.getD p 0 = o at *
  go_enter Try.func26, Try.ntmps26
  go_wp2_with fail
  refine OC.out.mono ?_
  rintro e w1 ⟨rfl, rfl⟩
  go_wp2_with fail
  refine CC.out.mono ?_
  rintro e w1 ⟨rfl, rfl⟩
  go_wp2_with fail
  go_ret2
  exact ⟨rfl, rfl⟩
def CkEnd (w : World) (l : List Nat) (e : Ending) (w' : World) : Prop := ∃ A q, e = .returned (.tuple #[.slice A l.length q, .int .i64 0]) ∧ Mem.Own w' w.heap.size 3 .i64 (.slice A l.length q) (Ti l) ∧ Chg (fun _ => False) w w'
theorem chl_take {j : Nat} (hj : j < 1024 / tz T c) : (Ti (chl T c p)).take (j + 1) = (Ti (chl T c p)).take j ++ [1024 * (p : Int) + (j : Int) * (tz T c : Int)] := by
  have hl : j < (Ti (chl T c p)).length := by rw [ti_len, chl_len]; exact hj
  rw [List.take_succ_eq_append_getElem hl]
  congr 2
  simp [Ti, chl]
set_option maxHeartbeats 1000000 in
theorem chunks_ok (k : WB w a h s T H) (i : SLI s T L) (hc : c < T.length) (hp : p < s.own.length) (ho : s.own.getD p 0 = (c : Int)) : Calls Try.prog 26 #[(.pointer (some ⟨h.b, 0, none⟩)), (.int .i64 ((p : Int)))] w (CkEnd w (chl T c p)) := by
  have OC := owner_calls k.lies (p : Int)
  have CC := class_calls k (c : Int)
  have hc' : (c : Int) < (T.length : Int) := by omega
  rw [decide_eq_true ⟨by omega, hc'⟩] at CC
  have eo : owner s (p : Int) = ((c : Int), 0) := by unfold owner; rw [if_neg (by omega), Int.toNat_natCast, ho]
  rw [eo] at OC
  have ts := i.ts c hc
  have PP := Lib.hid (fun W => perpage_calls (tz T c) (by omega) ts.2 W)
  have c0 := k.c0
  have KW : Hid (∀ W, Chg (fun _ => False) w W → W.cell? ⟨h.b, 1, none⟩ = some (.slice (some ⟨h.t, 0, none⟩) T.length h.tc) ∧ W.cell? ⟨h.t, c, none⟩ = some (.int .i64 (tz T c : Int))) := fun W hW => ⟨(k.fresh hW).c1, (k.fresh hW).ct hc⟩
  have p32 : p < 32 := by have := i.ok.high; omega
  have CT := Lib.hid (fun j (hj : j < 1024 / tz T c) => chl_take (p := p) hj)
  have CL : Hid ((Ti (chl T c p)).length = 1024 / tz T c) := by show _ = _; rw [ti_len, chl_len]
  unfold CkEnd
  rw [chl_len]
  obtain ⟨n, hn⟩ : ∃ n, 1024 / tz T c = n := ⟨_, rfl⟩
  have hn2 : n ≤ 1024 := by rw [← hn]; exact Nat.div_le_self _ _
  have jz : Hid (∀ j, j < n → j * tz T c + tz T c ≤ 1024) := fun j hj => (chl_at (p := 0) (by rw [hn]; exact hj)).2.2.1
  have n1 := k.n1
  have e0 : (Ti (chl T c p)).take 0 = [] := rfl
  rw [hn] at CT CL PP ⊢
  generalize Ti (chl T c p) = R at *
  generalize tz T c = z at *
  replace OC := Lib.hid OC
  replace CC := Lib.hid CC
  obtain ⟨c1, ct⟩ := KW.out w (Chg.refl _ _)
  generalize hN : T.length = N at *
  clear k i hp ho eo hn hc hN
  go_enter Try.func26, Try.ntmps26
  go_wp2_with fail
  refine OC.out.mono ?_
  rintro e w1 ⟨rfl, rfl⟩
  go_wp2_with fail
  refine CC.out.mono ?_
  rintro e w1 ⟨rfl, rfl⟩
  go_wp2_with fail
  refine (PP.out _).mono ?_
  rintro e w1 ⟨rfl, rfl⟩
  go_wp2_with fail
  go_loopg [8, 36] n (fun g v i wr => ∃ (j : Nat) (A : Option Addr) (q : Nat), v = .slice A j q ∧ i = .int .i64 j ∧ g = n - j ∧ j ≤ n ∧ Hid (Mem.Own wr w1.heap.size 3 .i64 (.slice A j q) (R.take j)) ∧ Hid (Chg (fun _ => False) w1 wr))
  case atStart => exact ⟨0, none, 0, rfl, rfl, rfl, by omega, by rw [e0]; exact Mem.Own.nil _ _ _ _, Chg.refl _ _⟩
  case round =>
    obtain ⟨j, A, q, rfl, rfl, hg, hj, O, C⟩ := hrel
    replace hg := Lib.hid hg
    by_cases h1 : j < n
    · have h1' : (j : Int) < (n : Int) := by omega
      obtain ⟨d1, d2⟩ := KW.out wr C.out
      have jb := jz.out j h1
      have T1 := Lib.hid (CT.out j h1)
      obtain ⟨jzz, hjz⟩ : ∃ q : Nat, j * z = q := ⟨_, rfl⟩
      have hjz2 : (j : Int) * (z : Int) = (jzz : Int) := by rw [← hjz]; exact (Int.natCast_mul j z).symm
      rw [hjz] at jb
      have LT : Hid ((R.take j).length = j) := by show _ = _; rw [List.length_take, CL.out]; omega
      have sz := C.out.size
      have T2 : Hid (R.take (j + 1) = R.take j ++ [(p : Int) * 1024 + (jzz : Int)]) := by show _ = _; rw [T1.out, hjz2, Int.mul_comm 1024]
      clear T1 hjz
      go_wp2_with (at_builtin; refine wpList_app rfl _ _ 25 rfl w1.heap.size 3 .i64 8 Try.underlying25 infoInt _ (R.take j) rfl (O.out.chg (Chg.alloc (fun _ => False) wr (.cells #[.int .i64 ((p : Int) * 1024 + (jzz : Int))] 3)) (fun _ _ => id)) (some ⟨wr.heap.size, 0, none⟩) 1 1 [(p : Int) * 1024 + (jzz : Int)] rfl rfl (sl_lit wr .i64 [(p : Int) * 1024 + (jzz : Int)] 3 (0, 0)) (fun e => by cases e) ?h63 ?hby ?hba ?_; (case h63 => rw [LT.out]; unfold maxLen; omega); (case hby => rw [LT.out]; omega); (case hba => simp; omega); intro A' c' n' w6 hn' hown hchg; obtain rfl : n' = j + 1 := (by rw [LT.out] at hn'; exact hn'); have O6 : Hid (Mem.Own w6 w1.heap.size 3 .i64 (.slice A' (j + 1) c') (R.take (j + 1))) := (by rw [T2.out]; exact hown); have C6 : Hid (Chg (fun b => w1.heap.size ≤ b) w1 w6) := ((C.out.mono fun _ _ h => h.elim).trans ((Chg.alloc _ wr _).trans hchg)); clear hn' hown hchg)
      go_roundg (n - (j + 1))
      case measure => have := hg.out; omega
      case rel => exact ⟨j + 1, A', c', rfl, rfl, rfl, by omega, O6.out, by have := C6.out; exact ⟨this.os, this.tape, this.output, this.size, fun b hb _ => this.block b hb (by omega)⟩⟩
    · have h1' : ¬ (j : Int) < (n : Int) := by omega
      obtain rfl : j = n := by omega
      have e1 : R.take j = R := List.take_of_length_le (by rw [CL.out]; exact Nat.le_refl _)
      rw [e1] at O
      go_wp2_with fail
      go_ret2
      exact ⟨_, _, rfl, O.out, C.out⟩
end Go.Proofs.Ytmffdlebahdihaa.Slab

/- The program's chunks: a class's list, a function to range over. -/
namespace Go.Proofs.Ytmffdlebahdihaa.Slab
open Go Go.RowKit Go.Shelf Go.Proofs.Ytmffdlebahdihaa.Mem Go.Proofs.Ytmffdlebahdihaa.CodecPure Go.Proofs.Ytmffdlebahdihaa.ArenaPure Go.Proofs.Ytmffdlebahdihaa.Codec Go.Proofs.Ytmffdlebahdihaa.Arena Go.Proofs.Ytmffdlebahdihaa.Item
set_option linter.unusedVariables false
set_option maxRecDepth 100000
attribute [local go_sem] Oper.semAt_some
variable {w w' : World} {a : Ar} {h : Sh} {s s' : St} {T : List Nat} {L : Nat → List Nat} {H : List Int} {c : Nat}
/-- how many chunks are still to come -/
def toCome (l : List Nat) : Value → Nat
  | .int _ x => if 0 ≤ x ∧ x.toNat ∈ l then l.length - l.idxOf x.toNat else 0
  | _ => 0
theorem toCome_int (l : List Nat) (x : Int) : toCome l (.int .i64 x) = if 0 ≤ x ∧ x.toNat ∈ l then l.length - l.idxOf x.toNat else 0 := rfl
theorem idx_mid {A : List Nat} {x : Nat} {C : List Nat} (h : x ∉ A) : (A ++ x :: C).idxOf x = A.length := by
  induction A with
  | nil => simp
  | cons y A ih =>
    simp only [List.mem_cons, not_or] at h
    rw [List.cons_append, List.idxOf_cons, ih h.2]
    have : (y == x) = false := by rw [beq_eq_false_iff_ne]; exact fun e => h.1 e.symm
    rw [this]; rfl
theorem toCome_at {A : List Nat} {x : Nat} {C : List Nat} (h : (A ++ x :: C).Nodup) : toCome (A ++ x :: C) (.int .i64 (x : Int)) = C.length + 1 := by
  have hx : x ∉ A := fun hm => (List.nodup_append.1 h).2.2 x hm x (by simp) rfl
  have e : ((x : Int)).toNat = x := by omega
  rw [toCome_int, e, if_pos ⟨by omega, by simp⟩, idx_mid hx, List.length_append, List.length_cons]; omega
theorem toCome_less {A : List Nat} {x : Nat} {C : List Nat} (h : (A ++ x :: C).Nodup) : toCome (A ++ x :: C) (.int .i64 (hdI C)) < toCome (A ++ x :: C) (.int .i64 (x : Int)) := by
  rw [toCome_at h]
  cases C with
  | nil =>
    show toCome _ (.int .i64 (-1)) < _
    rw [toCome_int, if_neg fun q => by omega]; simp
  | cons y C =>
    have e : A ++ x :: y :: C = (A ++ [x]) ++ y :: C := by simp
    show toCome _ (.int .i64 (y : Int)) < _
    rw [e] at h ⊢
    rw [toCome_at h, List.length_cons]; omega
theorem grown_of_chg (hc : Chg (fun _ => False) w w') : w.grownBy w' none := ⟨hc.os, hc.tape, hc.output, hc.size, fun b hb _ => hc.block b hb id⟩
/-- what a round keeps: all that lay below n₀, and the boxes B1, B2 -/
def Kp (n₀ B1 B2 : Nat) (A B : World) : Prop := Below n₀ A B ∧ B.heap[B1]? = A.heap[B1]? ∧ B.heap[B2]? = A.heap[B2]?
theorem Kp.trans {n₀ B1 B2 : Nat} {A B C : World} (h : Kp n₀ B1 B2 A B) (k : Kp n₀ B1 B2 B C) : Kp n₀ B1 B2 A C := ⟨h.1.trans k.1, k.2.1.trans h.2.1, k.2.2.trans h.2.2⟩
theorem Kp.refl (n₀ B1 B2 : Nat) (A : World) : Kp n₀ B1 B2 A A := ⟨Below.refl _ _, rfl, rfl⟩
theorem Kp.cell {n₀ B1 B2 : Nat} {A B : World} (h : Kp n₀ B1 B2 A B) : B.cell? ⟨B1, 0, none⟩ = A.cell? ⟨B1, 0, none⟩ := by
  unfold World.cell?
  rw [h.2.1]
theorem Kp.of_chg {n₀ B1 B2 : Nat} {A B : World} (hc : Chg (fun _ => False) A B) (hn : n₀ ≤ A.heap.size) (h1 : B1 < A.heap.size) (h2 : B2 < A.heap.size) : Kp n₀ B1 B2 A B :=
  ⟨⟨hc.os, hc.tape, hc.output, hc.size, fun b hb => hc.block b (Nat.lt_of_lt_of_le hb hn) id⟩, hc.block B1 h1 id, hc.block B2 h2 id⟩
def ev (x : Nat) : Array Value := #[.int .i64 (x : Int)]
set_option maxHeartbeats 1000000 in
/-- list's function: for every body that keeps what lay below n₀ -/
theorem list1_in (m : Nat) (hn : 1 ≤ m) (hc : c < T.length) (l B1 B2 n₀ : Nat) (J Jx : List Nat → World → Prop)
    (GC : ∀ W (x : Nat) (C A : List Nat), Chg (fun _ => False) w W → L c = A ++ x :: C → CallsIn Fence.wide (m - 1) Try.prog 54 #[(.pointer (some ⟨a.g, 0, none⟩)), (.int .i64 ((x : Int)))] W (Ans2 W (hdI C) 0))
    (W : World) (hJ : AbidesFrom W.heap.size J) (hn₀ : w.heap.size ≤ n₀) (hn₁ : n₀ ≤ W.heap.size)
    (hY : ∀ pre x W, J pre W → pre.length < (L c).length → YieldAt Fence.wide (m - 1) Try.prog l (ev x) W fun e W' =>
      (e = .returned (.bool true) ∧ J (pre ++ [x]) W' ∧ Kp n₀ B1 B2 W W') ∨ (e = .returned (.bool false) ∧ Jx (pre ++ [x]) W'))
    (hB1 : B1 < W.heap.size) (hB2 : B2 < W.heap.size) (hb : W.cell? ⟨B1, 0, none⟩ = some (.pointer (some ⟨h.b, 0, none⟩))) (hb2 : W.cell? ⟨B2, 0, none⟩ = some (.int .i64 c)) (k : WB w a h s T (hds T L)) (hnd : (L c).Nodup) (hW : Chg (fun _ => False) w W) (h0 : J [] W) :
    CallsIn Fence.wide m Try.prog 88 #[.func (.yield l) #[] #[], (.pointer (some ⟨B1, 0, none⟩)), (.pointer (some ⟨B2, 0, none⟩))] W fun e W' => (∃ v, e = .returned v) ∧
      ((∃ ys, ys = L c ∧ J ys W') ∨ (∃ pre, pre <+: L c ∧ Jx pre W')) := by
  have lq := blk_lt k.head
  have kW := k.fresh hW
  have c2 := kW.c2
  have ch := (kW.ch hc).1
  have n1 := kW.n1
  rw [hds_at L hc] at ch
  have hnW : ∀ W', Below n₀ W W' → WB W' a h s T (hds T L) ∧ Chg (fun _ => False) w W' := fun W' hb => by
    have : Chg (fun _ => False) w W' := ⟨hb.os.trans hW.os, hb.tape.trans hW.tape, hb.output.trans hW.output, Nat.le_trans hW.size hb.size, fun b hb' _ => (hb.block b (by omega)).trans (hW.block b hb' id)⟩
    exact ⟨k.fresh this, this⟩
  replace GC := Lib.hid GC
  replace hnW := Lib.hid hnW
  replace hY := Lib.hid hY
  replace hJ := Lib.hid hJ
  refine callsIn_of_wp Try.func88 rfl trivial ?_ rfl
  simp only [Try.ntmps88, List.size_toArray, List.length_cons, List.length_nil, Nat.reduceAdd, Nat.reduceSub, Array.replicate_succ, Array.replicate_zero, List.push_toArray, List.append_toArray, List.nil_append, List.cons_append]
  generalize hl : L c = lb at ch GC hnd hY
  replace hl := Lib.hid hl
  have hc' : (c : Int) < (T.length : Int) := by omega
  generalize T.length = N at c2 hc' n1
  clear kW k
  gi_wp2
  gi_quiet (fail)
  have KD : Hid (Kp n₀ B1 B2 W (W.drewN nq)) := Kp.of_chg (Chg.drewN _ _ _) hn₁ hB1 hB2
  have JD : Hid (J [] (W.drewN nq)) := hJ.out _ _ _ none h0 (grown_of_chg (Chg.drewN _ _ _)) (fun r e => by cases e)
  have hl0 : Hid (lb = [] ++ lb) := rfl
  clear ch h0 c2
  gi_wp2
  gi_loopw [4] (fun p wr => ∃ (A C : List Nat), p = .int .i64 (hdI C) ∧ lb = A ++ C ∧ Kp n₀ B1 B2 W wr ∧ J A wr) (fun p wr => toCome lb p)
  case atStart =>
    exact ⟨[], lb, rfl, hl0.out, KD.out, JD.out⟩
  case round =>
    clear KD JD hl0
    obtain ⟨A, C, rfl, hx, hk, hJs⟩ := hrel
    cases C with
    | nil =>
      have hd : hdI [] = -1 := rfl
      rw [hd]
      clear hd hnd GC hnW hY
      replace hx := Lib.hid hx
      gi_wp2
      refine ⟨fun _ h => (by cases h), ?_⟩
      gi_wp2
      go_end0
      exact ⟨⟨_, rfl⟩, .inl ⟨A, by rw [hx.out, List.append_nil], hJs⟩⟩
    | cons x C =>
      have hd : hdI (x :: C) = (x : Int) := rfl
      have t1 : ((x : Int) != -1) = true := by rw [bne_iff_ne]; omega
      have yy := hY.out A x wr hJs (by rw [hx]; simp)
      unfold ev at yy
      obtain ⟨fn, tmps, assign, body, hy, hR⟩ := yy
      replace hR := Lib.hid hR
      rw [hd]
      clear hd
      replace hx := Lib.hid hx
      gi_wp2
      refine hR.out.mono ?_
      rintro e W3 (⟨rfl, hJ3, hk3⟩ | ⟨rfl, hJx3⟩)
      · obtain ⟨k3, f3⟩ := hnW.out W3 (hk.trans hk3).1
        have d1 : W3.cell? ⟨B1, 0, none⟩ = some (.pointer (some ⟨h.b, 0, none⟩)) := (hk.trans hk3).cell.trans hb
        have d0 := k3.c0
        have C3 := GC.out W3 x C A f3 hx.out
        have hlt := toCome_less (by rw [← hx.out]; exact hnd)
        rw [← hx.out] at hlt
        have J3 := Lib.hid hJ3
        have K3 := Lib.hid (hk.trans hk3)
        clear k3 f3 hk3 hk hJ3 hJs hb hb2 hnd GC hY hR hnW
        generalize hnx : hdI C = nxt at C3 hlt
        replace hnx := Lib.hid hnx
        replace hlt := Lib.hid hlt
        gi_wp2_with fail
        try refine ⟨trivial, ?_⟩
        refine C3.mono ?_
        rintro e w4 ⟨rfl, f4⟩
        have F4 := Lib.hid f4
        clear f4 C3 d1 d0
        gi_wp2
        go_roundw
        case rel => exact ⟨A ++ [x], C, by rw [hnx.out], by rw [hx.out]; simp, K3.out.trans (Kp.of_chg F4.out (Nat.le_trans hn₁ K3.out.1.size) (Nat.lt_of_lt_of_le hB1 K3.out.1.size) (Nat.lt_of_lt_of_le hB2 K3.out.1.size)), hJ.out _ _ _ none J3.out (grown_of_chg F4.out) (fun r e => by cases e)⟩
        case measure => exact hlt.out
      · clear hnd GC hnW hY hR
        gi_wp2
        go_end0
        exact ⟨⟨_, rfl⟩, .inr ⟨A ++ [x], ⟨C, by rw [hx.out]; simp⟩, hJx3⟩⟩
theorem list_calls (b1 : Nat) (i : Int) (w : World) : Calls Try.prog 56 #[(.pointer (some ⟨b1, 0, none⟩)), (.int .i64 i)] w fun e w' => e = .returned (.func (.func 88) #[] #[(.pointer (some ⟨w.heap.size, 0, none⟩)), (.pointer (some ⟨w.heap.size + 1, 0, none⟩))]) ∧ w' = (w.alloc (.cells #[(.pointer (some ⟨b1, 0, none⟩))] 33)).alloc (.cells #[(.int .i64 i)] 3) := by
  go_enter Try.func56, Try.ntmps56
  go_wp2
  go_ret
  exact ⟨rfl, rfl⟩
theorem list_stops (m : Nat) (hn : 1 ≤ m) (hc : c < T.length) (B1 B2 n₀ : Nat) (w1 : World)
    (GC : ∀ W (x : Nat) (C A : List Nat), Chg (fun _ => False) w W → L c = A ++ x :: C → CallsIn Fence.wide (m - 1) Try.prog 54 #[(.pointer (some ⟨a.g, 0, none⟩)), (.int .i64 ((x : Int)))] W (Ans2 W (hdI C) 0))
    (hn₀ : w.heap.size ≤ n₀) (hB1 : B1 < w1.heap.size) (hB2 : B2 < w1.heap.size) (h1 : n₀ ≤ w1.heap.size) (hb : w1.cell? ⟨B1, 0, none⟩ = some (.pointer (some ⟨h.b, 0, none⟩))) (hb2 : w1.cell? ⟨B2, 0, none⟩ = some (.int .i64 c)) (k : WB w a h s T (hds T L)) (hnd : (L c).Nodup) (hw : Chg (fun _ => False) w w1) :
    SeqStopsK Fence.wide m Try.prog 88 #[(.pointer (some ⟨B1, 0, none⟩)), (.pointer (some ⟨B2, 0, none⟩))] ev (Kp n₀ B1 B2) (fun ys => ys = L c) (fun pre => pre <+: L c) (L c).length w1 := fun l J Jx W hW hJ _ hY h0 =>
  list1_in m hn hc l B1 B2 n₀ J Jx GC W hJ hn₀ (Nat.le_trans h1 hW.size) hY (Nat.lt_of_lt_of_le hB1 hW.size) (Nat.lt_of_lt_of_le hB2 hW.size) ((hW.cell (p := ⟨B1, 0, none⟩) hB1).trans hb) ((hW.cell (p := ⟨B2, 0, none⟩) hB2).trans hb2) k hnd (hw.trans (Chg.of_below hW)) h0
/-- a place in a class's list -/
theorem WB.gets (k : WB w a h s T (hds T L)) (i : SLI s T L) (hc : c < T.length) (W : World) (x : Nat) (C A : List Nat) (hw : Chg (fun _ => False) w W) (hx : L c = A ++ x :: C) : Calls Try.prog 54 #[(.pointer (some ⟨a.g, 0, none⟩)), (.int .i64 ((x : Int)))] W (Ans2 W (hdI C) 0) := by
  have xl := i.lt (i.ch c hc x (by rw [hx]; simp))
  have th := i.th c hc
  rw [hx] at th
  have P := place_calls (k.fresh hw).lies (x : Int) (by omega)
  rw [thr_place (A := A) A th] at P
  exact P.mono fun e w' ⟨h1, h2⟩ => ⟨h1, by subst h2; exact Chg.refl _ _⟩
end Go.Proofs.Ytmffdlebahdihaa.Slab

/- The program's chunks: IsFree. -/
namespace Go.Proofs.Ytmffdlebahdihaa.Slab
open Go Go.RowKit Go.Shelf Go.Proofs.Ytmffdlebahdihaa.Mem Go.Proofs.Ytmffdlebahdihaa.CodecPure Go.Proofs.Ytmffdlebahdihaa.ArenaPure Go.Proofs.Ytmffdlebahdihaa.Codec Go.Proofs.Ytmffdlebahdihaa.Arena Go.Proofs.Ytmffdlebahdihaa.Item
set_option linter.unusedVariables false
set_option maxRecDepth 100000
attribute [local go_sem] Oper.semAt_some
variable {w w' : World} {a : Ar} {h : Sh} {s s' : St} {T : List Nat} {L : Nat → List Nat} {H : List Int} {c x : Nat}
theorem box_from {W W' : World} {row : Option Nat} {B0 B : Nat} {ty : TypeId} {v : Value} (h : Boxed W B ty v) (hg : W.grownBy W' row) (hB : B < B0) (hr : ∀ r, row = some r → B0 ≤ r ∧ ∃ o : Obj, W.heap[r]? = some o ∧ o.isCells = false) : Boxed W' B ty v :=
  h.kept hg fun e => by have := (hr B e.symm).1; omega
theorem keeps_of_chg {W W' : World} (B : Nat) (hc : Chg (fun _ => False) W W') : KeepsFrom B W W' := by
  exact ⟨hc.size, fun k o _ h _ => (hc.block k (Array.getElem?_eq_some_iff.1 h).1 id).trans h⟩
theorem keeps_set {W W1 : World} {B g : Nat} {v : Value} (h : KeepsFrom B W W1) (hg : g < B) : KeepsFrom B W (W1.setCell ⟨g, 0, none⟩ v) :=
  ⟨by simp [World.setCell]; exact h.size, fun k o hk h1 h2 => (Below.heap_setCell W1 ⟨g, 0, none⟩ v k (by show k ≠ g; omega)).trans (h.same k o hk h1 h2)⟩
theorem results_cell1 {P : Program} {fn : Func} {p1 : Tmp} {t1 : TypeId} (h : fn.results = #[.cell p1 t1]) {tmps : Array Value} {w : World} {g1 : Nat} {v1 : Value}
    (h1 : tmps[p1]?.getD undef = .pointer (some ⟨g1, 0, none⟩)) (l1 : (loadVar t1 ⟨g1, 0, none⟩).run P w = .ok v1 w) : (results fn tmps).run P w = .ok v1 w := by
  simp [results, h, h1, asAddr, l1]
/-- the boxes of IsFree -/
def W2 (w : World) (y : Int) : World := (w.alloc (.cells #[.int .i64 y] 3)).alloc (.cells #[.bool false] 4)
structure B2 (w : World) (g g1 : Nat) (y : Int) : Prop where
  b1 : Boxed w g 3 (.int .i64 y)
  b2 : Boxed w g1 4 (.bool false)
theorem w2_all (w : World) (y : Int) : B2 (W2 w y) w.heap.size (w.heap.size + 1) y ∧ Chg (fun _ => False) w (W2 w y) ∧ (W2 w y).heap.size = w.heap.size + 1 + 1 := by
  have b1 := Boxed.new w 3 (.int .i64 y)
  have b2 := Boxed.new (w.alloc (.cells #[.int .i64 y] 3)) 4 (.bool false)
  simp only [World.size_alloc] at b2
  exact ⟨⟨b1.alloc (.cells #[.bool false] 4), b2⟩, (Chg.alloc (fun _ => False) w (.cells #[.int .i64 y] 3)).trans (Chg.alloc _ _ (.cells #[.bool false] 4)), by unfold W2; simp only [World.size_alloc]⟩
theorem B2.chg {g g1 : Nat} {y : Int} (h : B2 w g g1 y) (hc : Chg (fun _ => False) w w') : B2 w' g g1 y := ⟨hc.keep h.b1 id, hc.keep h.b2 id⟩
theorem B2.from {W W' : World} {row : Option Nat} {B0 g g1 : Nat} {y : Int} (h : B2 W g g1 y) (hg : W.grownBy W' row) (hB : g < B0 ∧ g1 < B0)
    (hr : ∀ r, row = some r → B0 ≤ r ∧ ∃ o : Obj, W.heap[r]? = some o ∧ o.isCells = false) : B2 W' g g1 y := ⟨box_from h.b1 hg hB.1 hr, box_from h.b2 hg hB.2 hr⟩
theorem chg_set {W : World} {g : Nat} {v : Value} (hc : Chg (fun _ => False) w W) (hg : w.heap.size ≤ g) : Chg (fun _ => False) w (W.setCell ⟨g, 0, none⟩ v) :=
  ⟨hc.os, hc.tape, hc.output, by simp [World.setCell]; exact hc.size, fun b hb _ => (Below.heap_setCell W ⟨g, 0, none⟩ v b (by show b ≠ g; omega)).trans (hc.block b hb id)⟩
def FrEnd (w : World) (b : Bool) (e : Ending) (w' : World) : Prop := e = .returned (.bool b) ∧ Chg (fun _ => False) w w'
theorem isfree_no (k : WB w a h s T H) (i : SLI s T L) (y : Int) (hy : -9223372036854775808 ≤ y ∧ y ≤ 9223372036854775807) (hn : NoChk s.own T y) : Calls Try.prog 20 #[(.pointer (some ⟨h.b, 0, none⟩)), (.int .i64 y)] w (FrEnd w false) := by
  obtain ⟨F2, C2, Z2⟩ := w2_all w y
  have CL := Lib.hid (class_no (k.fresh C2) i y hy hn)
  have e1 := F2.b1.cell
  replace F2 := Lib.hid F2
  replace C2 := Lib.hid C2
  clear k i hn
  go_enter Try.func20, Try.ntmps20
  go_wp2_with fail
  change Calls _ _ _ (W2 w y) _
  generalize W2 w y = w2 at F2 C2 Z2 e1 CL ⊢
  obtain ⟨g, hgs⟩ : ∃ g, w.heap.size = g := ⟨_, rfl⟩
  rw [hgs] at F2 Z2 e1 ⊢
  obtain ⟨g1, h1⟩ : ∃ g1, g + 1 = g1 := ⟨_, rfl⟩
  rw [h1] at F2 Z2 ⊢
  replace hgs := Lib.hid hgs
  have gg := Lib.hid h1
  clear h1
  refine CL.out.mono ?_
  rintro e w3 ⟨rfl, c3⟩
  have F3 := F2.out.chg c3
  have z3 := F3.b2.frozen
  have q3 := F3.b2.cell
  have C3 := Lib.hid (C2.out.trans c3)
  replace F3 := Lib.hid F3
  clear c3 CL e1
  go_wp2_with fail
  have m3 := (F3.out.b2.set (.bool false)).cell
  refine bodyPost_ret (v := .bool false) (results_cell1 rfl rfl (by simp [loadVar, go_sem, m3])) rfl ?_
  exact ⟨rfl, chg_set C3.out (by have := hgs.out; have := gg.out; omega)⟩
set_option maxHeartbeats 2000000 in
theorem isfree_ok (k : WB w a h s T (hds T L)) (i : SLI s T L) (hc : c < T.length) (hx : Chk s.own T c x) : Calls Try.prog 20 #[(.pointer (some ⟨h.b, 0, none⟩)), (.int .i64 ((x : Int)))] w (FrEnd w (decide (x ∈ L c))) := by
  have KH := Lib.hid k
  have IH := Lib.hid i
  have xl := i.lt hx
  obtain ⟨F2, C2, Z2⟩ := w2_all w (x : Int)
  have CL := Lib.hid (class_ok (k.fresh C2) i hc hx)
  have e1 := F2.b1.cell
  replace F2 := Lib.hid F2
  replace C2 := Lib.hid C2
  have HC := Lib.hid hc
  clear k i hx
  refine (callsIn_wide (n := 3)).1 ?_
  refine callsIn_of_wp_marks Try.func20 rfl trivial ?_ rfl
  simp only [Try.ntmps20, List.size_toArray, List.length_cons, List.length_nil, Nat.reduceAdd, Nat.reduceSub, Array.replicate_succ, Array.replicate_zero, List.push_toArray, List.append_toArray, List.nil_append, List.cons_append]
  refine wpIn_wide.2 ?_
  go_wp2_with fail
  change Calls _ _ _ (W2 w x) _
  generalize W2 w x = w2 at F2 C2 Z2 e1 CL ⊢
  obtain ⟨g, hgs⟩ : ∃ g, w.heap.size = g := ⟨_, rfl⟩
  rw [hgs] at F2 Z2 e1 ⊢
  obtain ⟨g1, h1⟩ : ∃ g1, g + 1 = g1 := ⟨_, rfl⟩
  rw [h1] at F2 Z2 ⊢
  replace hgs := Lib.hid hgs
  have gg := Lib.hid h1
  clear h1
  refine CL.out.mono ?_
  rintro e w3 ⟨rfl, c3⟩
  have F3 := Lib.hid (F2.out.chg c3)
  have C3 := Lib.hid (C2.out.trans c3)
  clear c3 CL e1 F2 C2 Z2 w2
  have CC := Lib.hid (list_calls h.b (c : Int) w3)
  go_wp2_with fail
  refine CC.out.mono ?_
  rintro e w4 ⟨rfl, e4⟩
  have X1 := ((Boxed.new w3 33 (.pointer (some ⟨h.b, 0, none⟩))).alloc (.cells #[(.int .i64 ((c : Int)))] 3)).cell
  have X2 := (Boxed.new (w3.alloc (.cells #[(.pointer (some ⟨h.b, 0, none⟩))] 33)) 3 (.int .i64 ((c : Int)))).cell
  have Z4 : Hid (((w3.alloc (.cells #[(.pointer (some ⟨h.b, 0, none⟩))] 33)).alloc (.cells #[(.int .i64 ((c : Int)))] 3)).heap.size = w3.heap.size + 1 + 1) := by show _ = _; simp only [World.size_alloc]
  have F4 : Hid (B2 ((w3.alloc (.cells #[(.pointer (some ⟨h.b, 0, none⟩))] 33)).alloc (.cells #[(.int .i64 ((c : Int)))] 3)) g g1 x) := (F3.out.chg (Chg.alloc _ _ _)).chg (Chg.alloc _ _ _)
  have C4 : Hid (Chg (fun _ => False) w ((w3.alloc (.cells #[(.pointer (some ⟨h.b, 0, none⟩))] 33)).alloc (.cells #[(.int .i64 ((c : Int)))] 3))) := (C3.out.trans (Chg.alloc _ _ _)).trans (Chg.alloc _ _ _)
  simp only [World.size_alloc] at X2
  rw [← e4] at X1 X2 Z4 F4 C4
  have S3 : Hid (g < w3.heap.size ∧ g1 < w3.heap.size) := ⟨World.block_lt_of_cell? w3 _ F3.out.b1.cell, World.block_lt_of_cell? w3 _ F3.out.b2.cell⟩
  have bwl : Hid (w.heap.size ≤ w3.heap.size) := C3.out.size
  clear F3 C3 CC e4
  generalize w3.heap.size = bb at X1 X2 Z4 S3 bwl ⊢
  replace X1 := Lib.hid X1
  replace X2 := Lib.hid X2
  clear w3
  go_wp2_with fail
  have nd : Hid ((L c).Nodup) := IH.out.nd c HC.out
  have hst := list_stops 2 (by decide) hc bb (bb + 1) w.heap.size w4 (fun W x C A hw hx => callsIn_wide.2 (KH.out.gets IH.out hc W x C A hw hx)) (Nat.le_refl _) (by rw [Z4.out]; omega) (by rw [Z4.out]; omega) C4.out.size X1.out X2.out KH.out nd.out C4.out
  refine (wpIn_wide (n := 3)).1 ?_
  refine wpIn_rangeFunc_ownG rfl (by decide) (gf := 88) (lb := #[(.pointer (some ⟨bb, 0, none⟩)), (.pointer (some ⟨bb + 1, 0, none⟩))]) rfl trivial (enters_of Try.func88 (by kernel_rfl) rfl) hst
    (fun h k => h.trans k) (fun W l o o' hl h1 h2 h3 => ⟨belowK_b (w := w4) C4.out.size W l o o' hl h1 h2 h3, World.putObj_heap_other (by rw [Z4.out] at hl; omega), World.putObj_heap_other (by rw [Z4.out] at hl; omega)⟩) (Below.refl _ _) (fun _ => rfl)
    (fun (pre : List Nat) W => B2 W g g1 x ∧ (Below w.heap.size w W ∧ w4.heap.size ≤ W.heap.size) ∧ x ∉ pre)
    (fun c (pre : List Nat) W => c = .ret ∧ x ∈ pre ∧ Boxed W g1 4 (.bool true) ∧ Below w.heap.size w W)
    (fun s A B row hs hg hr => ⟨hs.1.from hg (by rw [Z4.out]; have := S3.out; omega) hr, ⟨ownFrom_below (β := List Nat) (Nat.le_refl _) C4.out.size s A B row hs.2.1.1 hg hr, Nat.le_trans hs.2.1.2 hg.size⟩, hs.2.2⟩)
    (fun c s A B row hs hg hr => by
      obtain ⟨h1, h2, h3, h4⟩ := hs
      have := S3.out
      exact ⟨h1, h2, box_from h3 hg (by rw [Z4.out]; omega) hr, ownFrom_below (β := List Nat) (Nat.le_refl _) C4.out.size s A B row h4 hg hr⟩)
    ⟨F4.out, ⟨C4.out.below (Nat.le_refl _) fun _ h => h.elim, Nat.le_refl _⟩, fun he => by cases he⟩
    (fun (y : Nat) => { tmps := #[(.pointer (some ⟨h.b, 0, none⟩)), (.int .i64 ((x : Int))), undef, (.pointer (some ⟨g, 0, none⟩)), (.pointer (some ⟨g1, 0, none⟩)), (.int .i64 ((c : Int))), (.int .i64 0), (.int .i64 ((y : Int))), .tuple #[(.int .i64 ((c : Int))), (.int .i64 0)], (.pointer (some ⟨h.b, 0, none⟩)), (.int .i64 ((x : Int))), .tuple #[(.int .i64 ((c : Int))), (.int .i64 0)], (.int .i64 ((c : Int))), (.int .i64 0), (.int .i64 0), .bool false, (.pointer (some ⟨h.b, 0, none⟩)), (.int .i64 ((c : Int))), .func (.func 88) #[] #[(.pointer (some ⟨bb, 0, none⟩)), (.pointer (some ⟨bb + 1, 0, none⟩))], (.int .i64 ((y : Int))), undef, undef, undef], defers := [] }) ?assign ?body ?done ?stop
  case assign =>
    intro l y W K hK
    unfold ev
    gi_wp2
    exact hK
  case body =>
    rintro l pre y W ⟨hF, ⟨hB, hZ⟩, hN⟩ hlt
    have e1 := hF.b1.cell
    have z1 := hF.b2.frozen
    have q1 := hF.b2.cell
    have KF := Lib.hid hF
    have KB := Lib.hid hB
    have KN := Lib.hid hN
    replace hZ := Lib.hid hZ
    have KP := Lib.hid (keeps_of_chg w4.heap.size (Chg.refl (fun _ => False) W))
    clear hF hB hN hst
    by_cases hq : y = x
    · subst hq
      gi_wp2_with fail
      have G1 := S3.out
      have zz := Z4.out
      have ws := hgs.out
      have g1e := gg.out
      exact ⟨keeps_set KP.out (by omega), rfl, by simp, KF.out.b2.set _, KB.out.setCell (p := ⟨g1, 0, none⟩) (by show w.heap.size ≤ g1; omega) _⟩
    · have t1 : ((y : Int) == (x : Int)) = false := by rw [beq_eq_false_iff_ne]; omega
      have t2 : ¬ (y : Int) = (x : Int) := by omega
      have HQ := Lib.hid hq
      clear hq
      gi_wp2_with fail
      exact ⟨KP.out, Kp.refl _ _ _ _, KF.out, ⟨KB.out, hZ.out⟩, fun he => by
        rcases List.mem_append.1 he with he | he
        · exact KN.out he
        · exact HQ.out (List.mem_singleton.1 he).symm⟩
  case done =>
    rintro D ys W hD rfl ⟨hF, ⟨hB, -⟩, hN⟩ hK
    have z1 := hF.b2.frozen
    have q1 := hF.b2.cell
    have KF := Lib.hid hF
    have KB := Lib.hid hB
    have KN := Lib.hid hN
    have HK := Lib.hid hK
    clear hF hB hN hK hst
    gi_wp2
    go_wp2_with fail
    have G1 := S3.out
    have zz := Z4.out
    have ws := hgs.out
    have g1e := gg.out
    have b4 := KF.out.b2.set (.bool false)
    have BB := KB.out.setCell (p := ⟨g1, 0, none⟩) (by show w.heap.size ≤ g1; omega) (.bool false)
    have HD : (W.setCell ⟨g1, 0, none⟩ (.bool false)).heap[D]? = some (.deferred (some [])) := by
      rw [Below.heap_setCell _ ⟨g1, 0, none⟩ _ D (by show D ≠ g1; omega)]
      exact HK.out
    generalize W.setCell ⟨g1, 0, none⟩ (.bool false) = W9 at b4 BB HD
    refine ⟨by simp, .inl ⟨_, _, rfl, run_takeDeferred HD, ?_⟩⟩
    have c4 : Boxed (W9.putObj D (.deferred none)) g1 _ _ := (World.putObj_heap_other (by omega)).trans b4
    refine ⟨.bool false, results_cell1 rfl rfl ?_, ?_, Chg.of_below (BB.trans (belowK_b (w := w) (Nat.le_refl _) W9 D _ _ (by omega) HD rfl rfl))⟩
    · have := c4.cell
      simp [loadVar, go_sem, this]
    · rw [decide_eq_false KN.out]
  case stop =>
    rintro D c' pre W hD hp ⟨rfl, h2, b4, BB⟩ HD
    have G1 := S3.out
    have zz := Z4.out
    have ws := hgs.out
    have g1e := gg.out
    have hm : Hid (x ∈ L c) := hp.subset h2
    clear hst
    gi_wp2
    refine ⟨by simp, .inl ⟨_, _, rfl, run_takeDeferred HD, ?_⟩⟩
    have c4 : Boxed (W.putObj D (.deferred none)) g1 _ _ := (World.putObj_heap_other (by omega)).trans b4
    refine ⟨.bool true, results_cell1 rfl rfl ?_, by rw [decide_eq_true hm.out], Chg.of_below (BB.trans (belowK_b (w := w) (Nat.le_refl _) W D _ _ (by omega) HD rfl rfl))⟩
    have := c4.cell
    simp [loadVar, go_sem, this]
end Go.Proofs.Ytmffdlebahdihaa.Slab

/- slices.Backward over a row of numbers: a function to range over. -/
namespace Go.Proofs.Ytmffdlebahdihaa.Slab
open Go Go.RowKit Go.Shelf Go.Proofs.Ytmffdlebahdihaa.Mem Go.Proofs.Ytmffdlebahdihaa.CodecPure Go.Proofs.Ytmffdlebahdihaa.ArenaPure Go.Proofs.Ytmffdlebahdihaa.Codec Go.Proofs.Ytmffdlebahdihaa.Arena Go.Proofs.Ytmffdlebahdihaa.Item
set_option linter.unusedVariables false
set_option maxRecDepth 100000
attribute [local go_sem] Oper.semAt_some
/-- what a round keeps: the blocks B1 and B2 -/
def Kb (B1 B2 : Nat) (A B : World) : Prop := B.heap[B1]? = A.heap[B1]? ∧ B.heap[B2]? = A.heap[B2]?
theorem Kb.trans {B1 B2 : Nat} {A B C : World} (h : Kb B1 B2 A B) (k : Kb B1 B2 B C) : Kb B1 B2 A C := ⟨k.1.trans h.1, k.2.trans h.2⟩
theorem Kb.cell {B1 B2 : Nat} {A B : World} (h : Kb B1 B2 A B) {p : Addr} (hp : p.block = B1 ∨ p.block = B2) : B.cell? p = A.cell? p := by
  unfold World.cell?
  rcases hp with e | e <;> rw [e]
  · rw [h.1]
  · rw [h.2]
/-- the places of a row, the last one first -/
def revs (k : Nat) : List (Fin k) := (List.finRange k).reverse
theorem revs_len (k : Nat) : (revs k).length = k := by simp [revs]
theorem revs_at {k j : Nat} (h : j < k) : (revs k)[j]'(by rw [revs_len]; exact h) = ⟨k - 1 - j, by omega⟩ := by
  unfold revs
  rw [List.getElem_reverse, List.getElem_finRange]
  simp
theorem revs_take {k j : Nat} (h : j < k) : (revs k).take (j + 1) = (revs k).take j ++ [⟨k - 1 - j, by omega⟩] := by
  rw [List.take_succ_eq_append_getElem (by rw [revs_len]; exact h), revs_at h]
def bv (l : List Int) (i : Fin l.length) : Array Value := #[.int .i64 (i.val : Int), .int .i64 (l.getD i.val 0)]
theorem fin_at {k : Nat} (i : Fin k) (j : Nat) (h : i.val = j) (hj : j < k) : i = ⟨j, hj⟩ := Fin.ext h
set_option maxHeartbeats 1000000 in
theorem back1_in (l0 : List Int) (hl0 : l0.length ≤ 1000000) (m lp Bn sb : Nat) (hn : 1 ≤ m) (A : Option Addr) (c : Nat) (J Jx : List (Fin l0.length) → World → Prop) (W : World)
    (hY : ∀ pre x W, J pre W → pre.length < l0.length → YieldAt Fence.wide (m - 1) Try.prog lp (bv l0 x) W fun e W' =>
      (e = .returned (.bool true) ∧ J (pre ++ [x]) W' ∧ Kb Bn sb W W') ∨ (e = .returned (.bool false) ∧ Jx (pre ++ [x]) W'))
    (hc : W.cell? ⟨Bn, 0, none⟩ = some (.slice A l0.length c)) (hs : Sl W .i64 A l0) (hsb : ∀ ad, A = some ad → ad.block = sb) (h0 : J [] W) :
    CallsIn Fence.wide m Try.prog 108 #[.func (.yield lp) #[] #[], (.pointer (some ⟨Bn, 0, none⟩))] W fun e W' => (∃ v, e = .returned v) ∧
      ((∃ ys, ys = revs l0.length ∧ J ys W') ∨ (∃ pre, pre <+: revs l0.length ∧ Jx pre W')) := by
  obtain ⟨k, hk⟩ : ∃ k, l0.length = k := ⟨_, rfl⟩
  have HY := Lib.hid hY
  have HS : Hid (∀ W', Kb Bn sb W W' → W'.cell? ⟨Bn, 0, none⟩ = some (.slice A k c) ∧ Sl W' .i64 A l0) := fun W' h => ⟨by rw [h.cell (.inl rfl), ← hk]; exact hc, fun i hi => by
    obtain ⟨ad, e, hv⟩ := hs i hi
    exact ⟨ad, e, by rw [h.cell (.inr (by show (ad.add i).block = sb; unfold Addr.add; split <;> exact hsb ad e))]; exact hv⟩⟩
  rw [hk] at hc hl0
  have H0 : Hid (J ((revs l0.length).take 0) W) := h0
  replace hk := Lib.hid hk
  clear hY hs hsb h0
  refine callsIn_of_wp Try.func108 rfl trivial ?_ rfl
  simp only [Try.ntmps108, List.size_toArray, List.length_cons, List.length_nil, Nat.reduceAdd, Nat.reduceSub, Array.replicate_succ, Array.replicate_zero, List.push_toArray, List.append_toArray, List.nil_append, List.cons_append]
  gi_wp2
  gi_loopw [3] (fun p wr => ∃ (j : Nat), p = .int .i64 ((k : Int) - 1 - j) ∧ j ≤ k ∧ Hid (Kb Bn sb W wr) ∧ Hid (J ((revs l0.length).take j) wr)) (fun p wr => match p with | .int _ x => (x + 1).toNat | _ => 0)
  case atStart =>
    exact ⟨0, by rw [Int.natCast_zero, Int.sub_zero], Nat.zero_le _, ⟨rfl, rfl⟩, H0.out⟩
  case round =>
    clear H0 hc
    obtain ⟨j, rfl, hj, K, JJ⟩ := hrel
    by_cases h1 : j < k
    · obtain ⟨d, hd⟩ : ∃ d : Nat, (k : Int) - 1 - (j : Int) = d := ⟨k - 1 - j, by omega⟩
      have dk : d < l0.length := by rw [hk.out]; omega
      have yy := HY.out _ ⟨d, dk⟩ wr JJ.out (by rw [List.length_take, revs_len, hk.out]; omega)
      have TK : Hid ((revs l0.length).take j ++ [⟨d, dk⟩] = (revs l0.length).take (j + 1)) := by
        have := revs_take (k := l0.length) (j := j) (by rw [hk.out]; exact h1)
        rw [this]
        have e : (⟨d, dk⟩ : Fin l0.length) = ⟨l0.length - 1 - j, by omega⟩ := Fin.ext (by show (d : Nat) = l0.length - 1 - j; have := hk.out; omega)
        rw [e]; exact rfl
      rw [TK.out] at yy
      unfold bv at yy
      dsimp only at yy
      obtain ⟨c0, s0⟩ := HS.out wr K.out
      obtain ⟨ad, rfl, cd⟩ := s0 d dk
      generalize l0.getD d 0 = xv at cd yy
      obtain ⟨fn, tmps, assign, body, hy, hR⟩ := yy
      replace hR := Lib.hid hR
      have d0 : (0 : Int) ≤ (d : Int) := by omega
      have d1 : (d : Int) < (k : Int) := by omega
      have hd2 := Lib.hid hd
      rw [hd]
      have nh : ¬ (d : Int) < 0 := by omega
      clear hd TK HY
      replace s0 := Lib.hid s0
      gi_wp2
      refine hR.out.mono ?_
      rintro e W3 (⟨rfl, hJ3, hk3⟩ | ⟨rfl, hJx3⟩)
      · have K3 : Hid (Kb Bn sb W W3) := K.out.trans hk3
        have J3 := Lib.hid hJ3
        clear hk3 hJ3 c0 cd hR
        gi_wp2
        go_roundw
        case rel => exact ⟨j + 1, by congr 1; have := hd2.out; omega, by omega, K3.out, J3.out⟩
        case measure => have := hd2.out; show ((d : Int) - 1 + 1).toNat < ((d : Int) + 1).toNat; omega
      · clear c0 cd hR
        gi_wp2
        refine bodyPost_ret (results_none rfl _ _ _) rfl ?_
        exact ⟨⟨_, rfl⟩, .inr ⟨_, List.take_prefix _ _, hJx3⟩⟩
    · obtain rfl : j = k := by omega
      have e1 : ((j : Int) - 1 - j) = -1 := by omega
      have e2 : (revs l0.length).take j = revs l0.length := List.take_of_length_le (by rw [revs_len, hk.out]; exact Nat.le_refl _)
      rw [e2] at JJ
      rw [e1]
      clear e1 e2 HY HS
      gi_wp2
      go_end0
      exact ⟨⟨_, rfl⟩, .inl ⟨_, rfl, JJ.out⟩⟩
theorem back_calls (A : Option Addr) (n c : Nat) (w : World) : Calls Try.prog 86 #[.slice A n c] w fun e w' => e = .returned (.func (.func 108) #[] #[(.pointer (some ⟨w.heap.size, 0, none⟩))]) ∧ w' = w.alloc (.cells #[.slice A n c] 25) := by
  go_enter Try.func86, Try.ntmps86
  go_wp2
  go_ret
  exact ⟨rfl, rfl⟩
theorem back_stops (l0 : List Int) (hl0 : l0.length ≤ 1000000) (m Bn sb : Nat) (hn : 1 ≤ m) (A : Option Addr) (c : Nat) (w1 : World)
    (hB1 : Bn < w1.heap.size) (hB2 : sb < w1.heap.size) (hc : w1.cell? ⟨Bn, 0, none⟩ = some (.slice A l0.length c)) (hs : Sl w1 .i64 A l0) (hsb : ∀ ad, A = some ad → ad.block = sb) :
    SeqStopsK Fence.wide m Try.prog 108 #[(.pointer (some ⟨Bn, 0, none⟩))] (bv l0) (Kb Bn sb) (fun ys => ys = revs l0.length) (fun pre => pre <+: revs l0.length) l0.length w1 := fun l J Jx W hW hJ _ hY h0 =>
  back1_in l0 hl0 m l Bn sb hn A c J Jx W hY ((hW.cell (p := ⟨Bn, 0, none⟩) hB1).trans hc) (fun i hi => by
    obtain ⟨ad, e, hv⟩ := hs i hi
    exact ⟨ad, e, (hW.cell (p := ad.add i) (by rw [show (ad.add i).block = sb from by unfold Addr.add; split <;> exact hsb ad e]; exact hB2)).trans hv⟩) hsb h0
end Go.Proofs.Ytmffdlebahdihaa.Slab

/- The program's chunks: Free, all; chunks pushed one by one. -/
namespace Go.Proofs.Ytmffdlebahdihaa.Slab
open Go Go.RowKit Go.Shelf Go.Proofs.Ytmffdlebahdihaa.Mem Go.Proofs.Ytmffdlebahdihaa.CodecPure Go.Proofs.Ytmffdlebahdihaa.ArenaPure Go.Proofs.Ytmffdlebahdihaa.Codec Go.Proofs.Ytmffdlebahdihaa.Arena Go.Proofs.Ytmffdlebahdihaa.Item
set_option linter.unusedVariables false
set_option maxRecDepth 100000
variable {B : Nat} {w0 w w' : World} {a : Ar} {h : Sh} {s s' : St} {T : List Nat} {L : Nat → List Nat} {H : List Int} {c x : Nat}
theorem SX.free_no (k : SX B w0 w a h T s L) (y : Int) (hy : -9223372036854775808 ≤ y ∧ y ≤ 9223372036854775807) (hn : NoChk s.own T y) (E : Nat → Prop) : Calls Try.prog 14 #[(.pointer (some ⟨h.b, 0, none⟩)), (.int .i64 y)] w (XEnd B w0 w a h T s L s.own L E (.int .i64 1)) := by
  have CL := Lib.hid (class_no k.wb k.inv y hy hn)
  have SM : Hid (∀ w', Chg (fun _ => False) w w' → XEnd B w0 w a h T s L s.own L E (.int .i64 1) (.returned (.int .i64 1)) w') := fun w' hc => k.same rfl hc
  clear k hn hy
  go_enter Try.func14, Try.ntmps14
  go_wp2_with fail
  refine CL.out.mono ?_
  rintro e w1 ⟨rfl, c1⟩
  have S1 := Lib.hid (SM.out _ c1)
  clear c1 SM CL
  go_wp2_with fail
  go_ret
  exact S1.out
theorem SX.free_twice (k : SX B w0 w a h T s L) (hc : c < T.length) (hm : x ∈ L c) (E : Nat → Prop) : Calls Try.prog 14 #[(.pointer (some ⟨h.b, 0, none⟩)), (.int .i64 ((x : Int)))] w (XEnd B w0 w a h T s L s.own L E (.int .i64 4)) := by
  have hx := k.inv.ch c hc x hm
  have CL := Lib.hid (class_ok k.wb k.inv hc hx)
  have IF := Lib.hid (fun W (hw : Chg (fun _ => False) w W) => isfree_ok (k.wb.fresh hw) k.inv hc hx)
  rw [decide_eq_true hm] at IF
  have SM : Hid (∀ w', Chg (fun _ => False) w w' → XEnd B w0 w a h T s L s.own L E (.int .i64 4) (.returned (.int .i64 4)) w') := fun w' hc => k.same rfl hc
  clear k hm hx
  go_enter Try.func14, Try.ntmps14
  go_wp2_with fail
  refine CL.out.mono ?_
  rintro e w1 ⟨rfl, c1⟩
  have I1 := Lib.hid (IF.out _ c1)
  replace c1 := Lib.hid c1
  clear CL IF
  go_wp2_with fail
  refine I1.out.mono ?_
  rintro e w2 ⟨rfl, c2⟩
  have S1 := Lib.hid (SM.out _ (c1.out.trans c2))
  clear c1 c2 SM I1
  go_wp2_with fail
  go_ret
  exact S1.out
theorem SX.free_ok (k : SX B w0 w a h T s L) (hc : c < T.length) (hx : Chk s.own T c x) (hm : x ∉ L c) : Calls Try.prog 14 #[(.pointer (some ⟨h.b, 0, none⟩)), (.int .i64 ((x : Int)))] w (XEnd B w0 w a h T s L s.own (upN L c (x :: L c)) (· = x) (.int .i64 0)) := by
  have CL := Lib.hid (class_ok k.wb k.inv hc hx)
  have IF := Lib.hid (fun W (hw : Chg (fun _ => False) w W) => isfree_ok (k.wb.fresh hw) k.inv hc hx)
  rw [decide_eq_false hm] at IF
  have PU := Lib.hid (fun W (hw : Chg (fun _ => False) w W) => (k.fresh hw).push hc hx hm)
  clear k hm hx
  go_enter Try.func14, Try.ntmps14
  go_wp2_with fail
  refine CL.out.mono ?_
  rintro e w1 ⟨rfl, c1⟩
  have I1 := Lib.hid (IF.out _ c1)
  replace c1 := Lib.hid c1
  clear CL IF
  go_wp2_with fail
  refine I1.out.mono ?_
  rintro e w2 ⟨rfl, c2⟩
  have S1 := Lib.hid (PU.out _ (c1.out.trans c2))
  have C2 : Hid (Chg (fun _ => False) w w2) := c1.out.trans c2
  clear c1 c2 PU I1
  go_wp2_with fail
  refine S1.out.mono ?_
  rintro e w3 ⟨rfl, t, h1, h2, h3, h4⟩
  have F := Lib.hid (show XEnd B w0 w a h T s L s.own (upN L c (x :: L c)) (· = x) (.int .i64 0) (.returned (.int .i64 0)) w3 from ⟨rfl, t, h1, h2, h3, (C2.out.mono fun _ _ h => h.elim).trans h4⟩)
  clear h1 h2 h3 h4 S1
  go_wp2_with fail
  go_ret
  exact F.out
set_option maxHeartbeats 1000000 in
/-- all of a page's chunks are free, or none of them -/
theorem all_calls (k : WB w a h s T (hds T L)) (i : SLI s T L) (hc : c < T.length) (l : List Nat) (hl : ∀ x ∈ l, Chk s.own T c x) (n30 : l.length ≤ 1000000) (A : Option Addr) (q : Nat) (hs : Sl w .i64 A (Ti l)) (b : Bool) :
    Calls Try.prog 46 #[(.pointer (some ⟨h.b, 0, none⟩)), .slice A l.length q, .bool b] w (FrEnd w (l.all fun x => decide (x ∈ L c) == b)) := by
  have IF := Lib.hid (fun W (hw : Chg (fun _ => False) w W) x (hx : x ∈ l) => isfree_ok (k.fresh hw) i hc (hl x hx))
  have HS := Lib.hid hs
  have TL := Lib.hid (ti_len l)
  have TA : Hid (∀ j, j < l.length → (Ti l).getD j 0 = ((l.getD j 0 : Nat) : Int)) := fun j hj => by rw [ti_at]; rfl
  obtain ⟨n, hn⟩ : ∃ n, l.length = n := ⟨_, rfl⟩
  rw [hn] at n30 ⊢
  replace hn := Lib.hid hn
  clear k i hl hs hc
  obtain ⟨f, hf⟩ : ∃ f : Nat → Bool, (fun x => decide (x ∈ L c)) = f := ⟨_, rfl⟩
  have hf2 : ∀ x, decide (x ∈ L c) = f x := fun x => by rw [← hf]
  simp only [hf2] at IF ⊢
  clear hf hf2
  go_enter Try.func46, Try.ntmps46
  go_wp2_with fail
  go_loopg [11] n (fun g v wr => ∃ j : Nat, v = .int .i64 j ∧ g = n - j ∧ j ≤ n ∧ Hid (Chg (fun _ => False) w wr) ∧ Hid ((l.take j).all (fun x => f x == b) = true))
  case atStart => exact ⟨0, rfl, rfl, by omega, Chg.refl _ _, rfl⟩
  case round =>
    obtain ⟨j, rfl, hg, hj, C, AL⟩ := hrel
    replace hg := Lib.hid hg
    by_cases h1 : j < n
    · have h1' : (j : Int) < (n : Int) := by omega
      have jl : j < l.length := by rw [hn.out]; exact h1
      obtain ⟨ad, rfl, cj⟩ := (HS.out.chg C.out fun _ _ => id) j (by rw [TL.out]; exact jl)
      rw [TA.out j jl] at cj
      have xm : l.getD j 0 ∈ l := by rw [List.getD_eq_getElem?_getD, List.getElem?_eq_getElem jl]; exact List.getElem_mem jl
      have I1 := IF.out wr C.out _ xm
      have TK : Hid (l.take (j + 1) = l.take j ++ [l.getD j 0]) := by show _ = _; rw [List.take_succ_eq_append_getElem jl, List.getD_eq_getElem?_getD, List.getElem?_eq_getElem jl]; rfl
      by_cases e : f (l.getD j 0) = b
      · rw [e] at I1
        have AL2 : Hid ((l.take (j + 1)).all (fun x => f x == b) = true) := by
          show _ = true
          rw [TK.out, List.all_append, AL.out, Bool.true_and, List.all_cons, e, beq_self_eq_true]; rfl
        replace I1 := Lib.hid I1
        generalize l.getD j 0 = x at *
        clear TK xm e
        have nb : (b != b) = false := by cases b <;> rfl
        go_wp2_with fail
        refine I1.out.mono ?_
        rintro e w2 ⟨rfl, c2⟩
        have C2 := Lib.hid (C.out.trans c2)
        clear c2 I1 cj C
        go_wp2_with fail
        go_roundg (n - (j + 1))
        case measure => have := hg.out; omega
        case rel => exact ⟨j + 1, rfl, rfl, by omega, C2.out, AL2.out⟩
      · have nb : (f (l.getD j 0) == b) = false := by rw [beq_eq_false_iff_ne]; exact e
        have R : Hid (l.all (fun x => f x == b) = false) := by
          show _ = false
          rw [List.all_eq_false]
          exact ⟨_, xm, by simpa using e⟩
        generalize f (l.getD j 0) = bv at I1 nb
        generalize l.getD j 0 = x at I1 cj
        replace I1 := Lib.hid I1
        clear e TK xm
        go_wp2_with fail
        refine I1.out.mono ?_
        rintro e w2 ⟨rfl, c2⟩
        have C2 := Lib.hid (C.out.trans c2)
        clear c2 I1 cj C
        go_wp2_with fail
        go_ret
        exact ⟨by rw [R.out]; rfl, C2.out⟩
    · have h1' : ¬ (j : Int) < (n : Int) := by omega
      have R : Hid (l.all (fun x => f x == b) = true) := by
        have := AL.out
        rw [List.take_of_length_le (by rw [hn.out]; omega)] at this
        exact this
      go_wp2_with fail
      go_ret
      exact ⟨by rw [R.out]; rfl, C.out⟩
/-! ### chunks pushed one by one -/
theorem WB.skip {S : Nat → Prop} (k : WB w a h s T H) (hc : Chg S w w') (hS : ∀ x, x = a.g ∨ x = a.ps ∨ x ∈ a.pb ∨ x = h.b ∨ x = h.t ∨ x = h.h → ¬ S x) : WB w' a h s T H :=
  ⟨k.lies.chg hc (hS _ (.inl rfl)) (hS _ (.inr (.inl rfl))) fun b hb => hS _ (.inr (.inr (.inl hb))), k.n1, hc.keep k.head (hS _ (.inr (.inr (.inr (.inl rfl))))), k.tab.chg hc fun g e => by simp [Value.ownBlock] at e; subst e; exact hS _ (.inr (.inr (.inr (.inr (.inl rfl))))), k.hd.chg hc fun g e => by simp [Value.ownBlock] at e; subst e; exact hS _ (.inr (.inr (.inr (.inr (.inr rfl))))), k.hl, k.off, k.dis⟩
theorem wb_lt (k : WB w a h s T H) : ∀ x, x = a.g ∨ x = a.ps ∨ x ∈ a.pb ∨ x = h.b ∨ x = h.t ∨ x = h.h → x < w.heap.size := fun x hx => by
  rcases hx with rfl | rfl | hx | rfl | rfl | rfl
  · exact blk_lt k.lies.head
  · exact World.block_lt_of_cell? w _ (k.lies.row 0 k.lies.ok.low)
  · obtain ⟨j, hj, rfl⟩ := k.lies.of_mem hx
    exact blk_lt (k.lies.page j hj)
  · exact blk_lt k.head
  · exact (World.ownsRow.lt k.tab _ rfl).2
  · exact (World.ownsRow.lt k.hd _ rfl).2
/-- the chunks `pre` pushed since the world W0 -/
structure PI (W0 : World) (a : Ar) (h : Sh) (T : List Nat) (s0 : St) (L0 : Nat → List Nat) (c : Nat) (E : Nat → Prop) (pre : List Nat) (W : World) : Prop where
  ex : ∃ s, WB W a h s T (hds T (upN L0 c (pre.reverse ++ L0 c))) ∧ SLI s T (upN L0 c (pre.reverse ++ L0 c)) ∧ s.own = s0.own ∧ Fr T s0 L0 s (upN L0 c (pre.reverse ++ L0 c)) E
  chg : Chg (S7 a h) W0 W
variable {W0 W : World} {s0 : St} {L0 : Nat → List Nat} {E : Nat → Prop} {pre : List Nat}
theorem PI.start (k : WB W0 a h s0 T (hds T L0)) (i : SLI s0 T L0) : PI W0 a h T s0 L0 c E [] W0 :=
  ⟨⟨s0, by rw [List.reverse_nil, List.nil_append, upN_same]; exact ⟨k, i, rfl, Fr.refl _ _ _ _⟩⟩, Chg.refl _ _⟩
theorem PI.fresh (k : PI W0 a h T s0 L0 c E pre w) (hc : Chg (fun _ => False) w w') : PI W0 a h T s0 L0 c E pre w' := by
  obtain ⟨s, h1, h2, h3, h4⟩ := k.ex
  exact ⟨⟨s, h1.fresh hc, h2, h3, h4⟩, k.chg.trans (hc.mono fun _ _ h => h.elim)⟩
theorem PI.from {A : World} {row : Option Nat} (k : PI W0 a h T s0 L0 c E pre A) (hg : A.grownBy W row) (k0 : WB W0 a h s0 T H) (hr : ∀ r, row = some r → W0.heap.size ≤ r) : PI W0 a h T s0 L0 c E pre W := by
  obtain ⟨s, h1, h2, h3, h4⟩ := k.ex
  have hc := chg_of_grown (base := W0.heap.size) hg hr
  have lt := wb_lt k0
  exact ⟨⟨s, h1.skip hc fun x hx e => by have := lt x hx; omega, h2, h3, h4⟩, ⟨hc.os.trans k.chg.os, hc.tape.trans k.chg.tape, hc.output.trans k.chg.output, Nat.le_trans k.chg.size hc.size, fun i hi hs => (hc.block i (Nat.lt_of_lt_of_le hi k.chg.size) (by omega)).trans (k.chg.block i hi hs)⟩⟩
theorem PI.push (k : PI W0 a h T s0 L0 c E pre W) (hc : c < T.length) (hx : Chk s0.own T c x) (hn : x ∉ L0 c) (hp : x ∉ pre) (hE : E x) :
    Calls Try.prog 45 #[(.pointer (some ⟨h.b, 0, none⟩)), (.int .i64 ((c : Int))), (.int .i64 ((x : Int)))] W fun e w' => e = .returned (.tuple #[]) ∧ PI W0 a h T s0 L0 c E (pre ++ [x]) w' ∧ Chg (S7 a h) W w' := by
  obtain ⟨s, h1, h2, h3, h4⟩ := k.ex
  have sx : SX 0 W W a h T s (upN L0 c (pre.reverse ++ L0 c)) := ⟨h1, h2, Chg.refl _ _, fun _ _ => Nat.zero_le _⟩
  refine (sx.push hc (x := x) (by rw [h3]; exact hx) (by rw [upN_at]; simp; exact ⟨hp, hn⟩)).mono fun e w' ⟨e1, t, g1, g2, g3, g4⟩ => ⟨e1, ⟨⟨t, ?_⟩, k.chg.trans g4⟩, g4⟩
  have em : upN (upN L0 c (pre.reverse ++ L0 c)) c (x :: upN L0 c (pre.reverse ++ L0 c) c) = upN L0 c ((pre ++ [x]).reverse ++ L0 c) := by
    rw [upN_two, upN_at]; simp
  rw [em] at g1 g3
  exact ⟨g1.wb, g1.inv, g2.trans h3, h4.trans (g3.mono fun y e => by rw [e]; exact hE)⟩
theorem revs_map (lb : List Nat) : (revs (Ti lb).length).map (fun i => lb.getD i.val 0) = lb.reverse := by
  have hl := ti_len lb
  refine List.ext_getElem (by rw [List.length_map, revs_len, List.length_reverse, hl]) fun i h1 h2 => ?_
  rw [List.length_reverse] at h2
  rw [List.getElem_map, revs_at (by rw [hl]; exact h2), List.getElem_reverse, List.getD_eq_getElem?_getD, List.getElem?_eq_getElem (by show (Ti lb).length - 1 - i < lb.length; omega)]
  simp only [hl]
  rfl
end Go.Proofs.Ytmffdlebahdihaa.Slab

