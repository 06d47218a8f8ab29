import Derived.Test.YtmffdlebahdihaaGe
import Derived.Laws.BitsLemmas
import Derived.RowKit
import Derived.Test.YtmffdlebahdihaaGg
import Derived.Test.YtmffdlebahdihaaGf
/- Chapter 04 in plain words: the number of a text, and its bucket. No program in sight. -/
namespace Go.Proofs.Ytmffdlebahdihaa.Fnv
open Go Go.RowKit Go.Proofs.Ytmffdlebahdihaa.Mem
set_option linter.unusedVariables false
/-- one byte more -/
def stp (x c : Int) : Int := ((Go.bits .xor .u32 x c) * 16777619) % 4294967296
theorem stp_range (x c : Int) : 0 ≤ stp x c ∧ stp x c < 4294967296 := by unfold stp; omega
def numL (x : Int) (l : List Int) : Int := l.foldl stp x
def num (s : ByteArray) : Int := numL 2166136261 (bs s)
theorem numL_range (l : List Int) : ∀ x, 0 ≤ x → x < 4294967296 → 0 ≤ numL x l ∧ numL x l < 4294967296 := by
  induction l with
  | nil => intro x h0 h1; exact ⟨h0, h1⟩
  | cons c l ih => intro x h0 h1; exact ih _ (stp_range x c).1 (stp_range x c).2
theorem num_range (s : ByteArray) : 0 ≤ num s ∧ num s < 4294967296 := numL_range _ _ (by decide) (by decide)
theorem numL_take (x : Int) (l : List Int) (i : Nat) (hi : i < l.length) : numL x (l.take (i + 1)) = stp (numL x (l.take i)) (l.getD i 0) := by
  unfold numL
  rw [List.take_add_one, List.getElem?_eq_getElem hi, List.foldl_append, List.getD_eq_getElem?_getD, List.getElem?_eq_getElem hi]
  rfl
def Pow (n : Int) : Prop := n = 1 ∨ n = 2 ∨ n = 4 ∨ n = 8 ∨ n = 16 ∨ n = 32 ∨ n = 64
instance (n : Int) : Decidable (Pow n) := by unfold Pow; infer_instance
def bucketP (x n : Int) : Int × Int := if Pow n then (x % n, 0) else (0, 1)
theorem i64_wraps (n : Int) (h0 : 0 ≤ n) (h1 : n < 2 ^ 40) : IntKind.i64.wrap n = n := by rw [IntKind.wrap_i64]; omega
theorem u32_wraps (n : Int) (h0 : 0 ≤ n) (h1 : n < 2 ^ 32) : IntKind.u32.wrap n = n := by rw [IntKind.wrap_u32]; omega
theorem and_low (x : Int) (h0 : 0 ≤ x) (h1 : x < 4294967296) (n : Int) (hn : Pow n) : Go.bits .and .i64 x (n - 1) = x % n := by
  have key : ∀ i : Nat, i ≤ 6 → Go.bits .and .i64 x ((2 : Int) ^ i - 1) = x % 2 ^ i := fun i hi => bits_mask .i64 40 (by decide) i64_wraps i (by omega) x h0 (by omega)
  rcases hn with rfl | rfl | rfl | rfl | rfl | rfl | rfl
  · exact key 0 (by decide)
  · exact key 1 (by decide)
  · exact key 2 (by decide)
  · exact key 3 (by decide)
  · exact key 4 (by decide)
  · exact key 5 (by decide)
  · exact key 6 (by decide)
/-- which numbers are powers of two, up to sixty-four -/
theorem pow_fin : ∀ m : Fin 65, 1 ≤ m.val → (Go.bits .and .i64 (m.val : Int) ((m.val : Int) - 1) = 0 ↔ (m.val = 1 ∨ m.val = 2 ∨ m.val = 4 ∨ m.val = 8 ∨ m.val = 16 ∨ m.val = 32 ∨ m.val = 64)) := by decide +kernel
theorem pow_iff (n : Int) (h1 : 1 ≤ n) (h2 : n ≤ 64) : Go.bits .and .i64 n (n - 1) = 0 ↔ Pow n := by
  obtain ⟨m, rfl⟩ := Int.eq_ofNat_of_zero_le (show 0 ≤ n by omega)
  have := pow_fin ⟨m, by omega⟩ (by show 1 ≤ m; omega)
  simp only at this
  rw [this]
  unfold Pow
  omega
theorem Pow.range {n : Int} (h : Pow n) : 1 ≤ n ∧ n ≤ 64 := by unfold Pow at h; omega
/-- may a byte be in a key? -/
def kb (x : Int) : Bool := decide (33 ≤ x) && decide (x ≤ 126)
def keyOk (l : List Int) : Bool := decide (1 ≤ l.length) && decide (l.length ≤ 32) && l.all kb
theorem all_take (l : List Int) (i : Nat) (hi : i < l.length) : (l.take (i + 1)).all kb = ((l.take i).all kb && kb (l.getD i 0)) := by
  rw [List.take_add_one, List.getElem?_eq_getElem hi, List.all_append, List.getD_eq_getElem?_getD, List.getElem?_eq_getElem hi]
  simp
theorem all_not (l : List Int) (i : Nat) (hi : i < l.length) (h : kb (l.getD i 0) = false) : l.all kb = false := by
  rw [List.all_eq_false]
  refine ⟨l[i], List.getElem_mem hi, ?_⟩
  rw [List.getD_eq_getElem?_getD, List.getElem?_eq_getElem hi] at h
  simpa using h
theorem all_not_take (l : List Int) (i : Nat) (h : (l.take i).all kb = false) : l.all kb = false := by
  rw [List.all_eq_false] at h ⊢
  obtain ⟨x, hx, h⟩ := h
  exact ⟨x, List.mem_of_mem_take hx, h⟩
theorem kb_of (x : Int) : kb x = true ↔ 33 ≤ x ∧ x ≤ 126 := by unfold kb; simp
theorem kb_not (x : Int) (h : kb x = false) : x < 33 ∨ (33 ≤ x ∧ 126 < x) := by
  unfold kb at h
  rw [Bool.and_eq_false_iff, decide_eq_false_iff_not, decide_eq_false_iff_not] at h
  omega
theorem toList_nil (s : ByteArray) : s.toList = ([] : List UInt8) ↔ s.size = 0 := by
  rw [ByteArray.toList_eq]
  constructor
  · intro h
    have := congrArg List.length h
    simpa using this
  · intro h
    apply List.eq_nil_of_length_eq_zero
    simpa using h
end Go.Proofs.Ytmffdlebahdihaa.Fnv

/- Both arenas behind Laid: what stands for the pages and for each item. No program in sight. -/
namespace Go.Proofs.Ytmffdlebahdihaa.Item
open Go Go.RowKit Go.Proofs.Ytmffdlebahdihaa.Mem Go.Proofs.Ytmffdlebahdihaa.CodecPure Go.Proofs.Ytmffdlebahdihaa.ArenaPure Go.Proofs.Ytmffdlebahdihaa.Codec Go.Proofs.Ytmffdlebahdihaa.Arena
set_option linter.unusedVariables false
set_option maxRecDepth 100000
theorem grant_ok {s : St} (hs : Ok s) (c : Int) : Ok (ArenaPure.grant s c).1 := by
  unfold ArenaPure.grant
  split
  · exact hs
  · split
    · rename_i h1 h2
      exact granted_ok hs (first s.own) c h2 (by omega)
    · exact hs
theorem granting_ok {s : St} (hs : Ok s) : ∀ k, Ok (granting s k)
  | 0 => hs
  | k + 1 => grant_ok (granting_ok hs k) 1
theorem madeS_ok4 : Ok (madeS 4) := granting_ok (new_ok 4 (by decide) (by decide)) 3
theorem laid_good {s : St} (hs : Ok s) (ho : s.own = [1, 1, 1, -1]) (n : Nat) (hn : n < 30) : ArenaPure.Good s (opsR (64 * (n : Int)) (bs (keyS n)) (bs V1)) :=
  (opsP_good (tc := 64) hs (laid_within ho n (by omega)) (by rw [bs_length, (keyS_bs n hn).2]; decide) (by decide) (by rw [bs_length, (keyS_bs n hn).2]; decide) (bs_bytes _) (bs_bytes _)).perm (ops_perm _ _ _)
theorem laidS_ok : ∀ n, n ≤ 30 → Ok (laidS n)
  | 0, _ => madeS_ok4
  | n + 1, h => (laid_good (laidS_ok n (by omega)) (laidS_own n) n (by omega)).lays
theorem opsR_in {x : Int} {key val : List Int} (hk : key.length = 5) (hv : val.length = 1) : ∀ o ∈ opsR x key val, x ≤ o.1 ∧ o.1 + o.2.length ≤ x + 64 := by
  intro o ho
  simp only [opsR, List.mem_cons, List.not_mem_nil, or_false] at ho
  rcases ho with rfl | rfl | rfl | rfl | rfl | rfl | rfl | rfl | rfl | rfl | rfl | rfl | rfl | rfl <;> simp only [pb4_length, leb_length, hk, hv] <;> omega
end Go.Proofs.Ytmffdlebahdihaa.Item

/- Chapter 10 in plain words: the arena of chapter 10's items, but for what leads from item to item. No program in sight. -/
namespace Go.Proofs.Ytmffdlebahdihaa.ArenaPure
open Go Go.RowKit Go.Proofs.Ytmffdlebahdihaa.Mem Go.Proofs.Ytmffdlebahdihaa.CodecPure Go.Proofs.Ytmffdlebahdihaa.Codec Go.Proofs.Ytmffdlebahdihaa.Arena Go.Proofs.Ytmffdlebahdihaa.Item Go.Proofs.Ytmffdlebahdihaa.Fnv
set_option linter.unusedVariables false
set_option maxRecDepth 100000
/-- what was laid, each piece apart from all others, is got -/
theorem lays_each {s : St} {l : List (Int × List Int)} (h : Good s l) (hp : l.Pairwise Off) {o : Int × List Int} (ho : o ∈ l) : got (lays s l) o.1 o.2.length = o.2 := by
  obtain ⟨l1, l2, rfl⟩ := List.append_of_mem ho
  exact lays_in h fun p hp2 => (List.pairwise_cons.1 (List.pairwise_append.1 hp).2.1).1 p hp2
theorem opsR_off (x : Int) (key val : List Int) : (opsR x key val).Pairwise Off := (List.Perm.pairwise_iff (fun h => Off.symm h) (ops_perm x key val)).1 (opsP_off x key val)
theorem laid_got : ∀ n, n ≤ 30 → ∀ k : Nat, k < n → ∀ o ∈ opsR (64 * (k : Int)) (bs (keyS k)) (bs V1), got (laidS n) o.1 o.2.length = o.2 := by
  intro n
  induction n with
  | zero => intro _ k hk; omega
  | succ n ih =>
    intro hn k hk o ho
    have G := laid_good (laidS_ok n (by omega)) (laidS_own n) n (by omega)
    by_cases e : k = n
    · subst e
      exact lays_each G (opsR_off _ _ _) ho
    · have R := opsR_in (x := 64 * (k : Int)) (by rw [bs_length, (keyS_bs k (by omega)).2]) (by decide) o ho
      have f := lays_off G (y := o.1) (n := o.2.length) (by omega) (by omega) fun p hp => by
        have := opsR_in (x := 64 * (n : Int)) (by rw [bs_length, (keyS_bs n (by omega)).2]) (by decide) p hp
        omega
      show got (lays (laidS n) _) _ _ = _
      rw [f]
      exact ih (by omega) k (by omega) o ho
theorem laid_zero : ∀ n : Nat, n ≤ 30 → ∀ y m : Int, 64 * (n : Int) ≤ y → 0 ≤ m → got (laidS n) y m = got (madeS 4) y m := by
  intro n
  induction n with
  | zero => intro _ y m _ _; rfl
  | succ n ih =>
    intro hn y m hy hm
    have G := laid_good (laidS_ok n (by omega)) (laidS_own n) n (by omega)
    have f := lays_off G (y := y) (n := m) (by omega) hm fun p hp => by
      have := opsR_in (x := 64 * (n : Int)) (by rw [bs_length, (keyS_bs n (by omega)).2]) (by decide) p hp
      omega
    show got (lays (laidS n) _) _ _ = _
    rw [f]
    exact ih (by omega) y m (by omega) hm
theorem made_B : (madeS 4).B = List.replicate 4096 0 := by decide +kernel
/-- the bytes of all items' first fields -/
def NextByte (i : Nat) : Prop := i < 1920 ∧ i % 64 < 4
/-- the arena of chapter 10's items, but for what leads from item to item -/
structure NS (s : St) (nx : Nat → Int) : Prop where
  lay : Lay (laidS 30) s NextByte
  nx : ∀ k : Nat, k < 30 → itemGet s (64 * (k : Int)) 0 = (nx k, 0)
variable {s t : St} {nx ny : Nat → Int}
theorem NS.ok (h : NS s nx) : Ok s := h.lay.ok
theorem NS.own (h : NS s nx) : s.own = [1, 1, 1, -1] := h.lay.own.trans (laidS_own 30)
theorem NS.hdr (h : NS s nx) {k : Nat} (hk : k < 30) : within s (64 * (k : Int)) 40 := by
  have := within_part (laid_within h.own k (by omega)) 0 40 (by decide) (by decide) (by decide) (by decide)
  rwa [Int.add_zero] at this
theorem NS.pl (h : NS s nx) {k : Nat} (hk : k < 30) : Pl (nx k) := by
  have := (got_of_itemGet h.ok (h.hdr hk) (by decide) (by decide) (by decide) (h.nx k hk)).2
  exact this
def upd (f : Nat → Int) (k : Nat) (x : Int) : Nat → Int := fun j => if j = k then x else f j
theorem upd_at (f : Nat → Int) (k : Nat) (x : Int) : upd f k x k = x := if_pos rfl
theorem upd_ne (f : Nat → Int) {k j : Nat} (x : Int) (h : j ≠ k) : upd f k x j = f j := if_neg h
theorem NS.set (h : NS s nx) {k : Nat} (hk : k < 30) {x : Int} (hx : Pl x) : (itemSet s (64 * (k : Int)) 0 x).2 = 0 ∧ NS (itemSet s (64 * (k : Int)) 0 x).1 (upd nx k x) := by
  have hh := h.hdr hk
  rw [itemSet_lay (f := 0) h.ok hh (by decide) (by decide) (by decide) hx]
  have e : 64 * (k : Int) + fat 0 = 64 * (k : Int) := by show 64 * (k : Int) + 0 = _; omega
  have hw4 : within s (64 * (k : Int) + fat 0) (fb 0 x).length := by rw [fb_length x (by decide) (by decide)]; exact hdr_f hh (by decide) (by decide)
  have hl : ((fb 0 x).length : Int) = 4 := fb_length x (by decide) (by decide)
  have L1 := lay_frame h.ok hw4 (fb_bytes 0 x) (fun i => 64 * k ≤ i ∧ i < 64 * k + 4) fun i h1 h2 => by omega
  have G := got_lay h.ok hw4
  rw [hl] at G
  refine ⟨rfl, h.lay.trans (L1.mono fun i hi => ⟨by omega, by omega⟩), fun j hj => ?_⟩
  have hj2 := L1.hdr (h.hdr hj)
  by_cases ej : j = k
  · subst ej
    rw [upd_at]
    exact itemGet_of L1.ok hj2 (by decide) (by decide) (by decide) hx G
  · rw [upd_ne _ _ ej]
    refine itemGet_of L1.ok hj2 (by decide) (by decide) (by decide) (h.pl hj) ?_
    have e2 : 64 * (j : Int) + fat 0 = 64 * (j : Int) := by show 64 * (j : Int) + 0 = _; omega
    rw [L1.got _ _ (by omega) fun i h1 h2 h3 => by have : fw 0 = 4 := rfl; omega]
    exact (got_of_itemGet h.ok (h.hdr hj) (by decide) (by decide) (by decide) (h.nx j hj)).1
theorem NS.unique (h : NS s nx) (k : NS t ny) (e : ∀ j, j < 30 → nx j = ny j) : s = t := by
  have ho : s.own = t.own := h.own.trans k.own.symm
  refine st_ext ho fun i => ?_
  by_cases hi : NextByte i
  · obtain ⟨h1, h2⟩ := hi
    have hj : i / 64 < 30 := by omega
    have g1 := (got_of_itemGet h.ok (h.hdr hj) (by decide) (by decide) (by decide) (h.nx _ hj)).1
    have g2 := (got_of_itemGet k.ok (k.hdr hj) (by decide) (by decide) (by decide) (k.nx _ hj)).1
    rw [← e _ hj, ← g1] at g2
    have e0 : (64 * ((i / 64 : Nat) : Int) + fat 0).toNat = 64 * (i / 64) := by show (64 * ((i / 64 : Nat) : Int) + 0).toNat = _; omega
    have key : ∀ r : St, (got r (64 * ((i / 64 : Nat) : Int) + fat 0) (fw 0))[i % 64]? = r.B[i]? := fun r => by
      unfold got
      rw [e0, List.getElem?_take, if_pos (show i % 64 < (fw 0).toNat from h2), List.getElem?_drop]
      congr 1; omega
    rw [← key s, ← key t, g2]
  · rw [h.lay.out i hi, k.lay.out i hi]
theorem ns_laid : NS (laidS 30) (fun _ => -1) := by
  refine ⟨Lay.refl (laidS_ok 30 (by decide)) _, fun k hk => ?_⟩
  have hh : within (laidS 30) (64 * (k : Int)) 40 := by
    have := within_part (laid_within (laidS_own 30) k (by omega)) 0 40 (by decide) (by decide) (by decide) (by decide)
    rwa [Int.add_zero] at this
  exact itemGet_of (laidS_ok 30 (by decide)) hh (by decide) (by decide) (by decide) (show Pl (-1) from ⟨by decide, by decide⟩) (laid_got 30 (by decide) k hk (64 * (k : Int) + 0, pb4 (-1)) (by simp [opsR]))
/-! ### keys -/
/-- chapter 10's Key -/
def keyP (s : St) (at_ : Int) : List Int × Int :=
  if within s at_ 40 then if within s at_ (40 + (itemGet s at_ 8).1) then if keyOk (got s (at_ + 40) (itemGet s at_ 8).1) then (got s (at_ + 40) (itemGet s at_ 8).1, 0) else ([], 6) else ([], 1) else ([], 1)
theorem NS.got (h : NS s nx) (x n : Int) (h0 : 0 ≤ x) (hf : ∀ i : Nat, x ≤ i → (i : Int) < x + n → ¬ NextByte i) : ArenaPure.got s x n = ArenaPure.got (laidS 30) x n := h.lay.got x n h0 hf
theorem NS.key (h : NS s nx) {k : Nat} (hk : k < 30) : keyP s (64 * (k : Int)) = (bs (keyS k), 0) := by
  have hh := h.hdr hk
  obtain ⟨hb, hz⟩ := keyS_bs k hk
  have lk : (bs (keyS k)).length = 5 := by rw [bs_length, hz]
  have g8 : itemGet s (64 * (k : Int)) 8 = (5, 0) := by
    refine itemGet_of h.ok hh (by decide) (by decide) (by decide) (by unfold Fits; rw [if_neg (by decide)]; decide) ?_
    show ArenaPure.got s (64 * (k : Int) + 34) 1 = leb 5 1
    rw [h.got _ _ (by omega) fun i h1 h2 h3 => by have := h3.2; omega]
    have := laid_got 30 (by decide) k hk (64 * (k : Int) + 34, leb ((bs (keyS k)).length : Int) 1) (by simp [opsR])
    rw [lk] at this
    exact this
  have gk : ArenaPure.got s (64 * (k : Int) + 40) 5 = bs (keyS k) := by
    rw [h.got _ _ (by omega) fun i h1 h2 h3 => by have := h3.2; omega]
    have := laid_got 30 (by decide) k hk (64 * (k : Int) + 40, bs (keyS k)) (by simp [opsR])
    rw [show (((64 * (k : Int) + 40, bs (keyS k)) : Int × List Int).2.length : Int) = 5 by show ((bs (keyS k)).length : Int) = 5; rw [lk]; rfl] at this
    exact this
  have w45 : within s (64 * (k : Int)) 45 := by
    have := within_part (laid_within h.own k (by omega)) 0 45 (by decide) (by decide) (by decide) (by decide)
    rwa [Int.add_zero] at this
  unfold keyP
  rw [if_pos hh, g8]
  show (if within s (64 * (k : Int)) 45 then _ else _) = _
  rw [if_pos w45]
  show (if keyOk (ArenaPure.got s (64 * (k : Int) + 40) 5) then _ else _) = _
  rw [gk]
  have ok : keyOk (bs (keyS k)) = true := by
    rw [hb]
    unfold keyOk kb
    simp only [List.length_cons, List.length_nil, List.all_cons, List.all_nil, Bool.and_true, Bool.and_eq_true, decide_eq_true_eq]
    omega
  rw [if_pos ok]
/-- where no item begins that has a key -/
theorem NS.nokey (h : NS s nx) {x : Int} (hx : x < 0 ∨ 1920 ≤ x) : keyP s x = ([], 1) ∨ keyP s x = ([], 6) := by
  unfold keyP
  by_cases hw : within s x 40
  · right
    have x0 := hw.2.1
    have hr := in_row h.ok hw
    have hlen := h.ok.len
    rw [h.own] at hlen
    have hB : s.B.length = 4096 := hlen
    have zero : ∀ y m : Int, 1920 ≤ y → 0 ≤ m → y + m ≤ 4096 → ArenaPure.got s y m = List.replicate m.toNat 0 := fun y m h1 h2 h3 => by
      rw [h.got y m (by omega) fun i h4 h5 h6 => by have := h6.1; omega, laid_zero 30 (by decide) y m (by omega) h2]
      unfold ArenaPure.got
      rw [made_B, List.drop_replicate, List.take_replicate]
      congr 1; omega
    have g8 : itemGet s x 8 = (0, 0) := by
      refine itemGet_of h.ok hw (by decide) (by decide) (by decide) (by unfold Fits; rw [if_neg (by decide)]; decide) ?_
      show ArenaPure.got s (x + 34) 1 = leb 0 1
      rw [zero _ _ (by omega) (by decide) (by omega)]; rfl
    rw [if_pos hw, g8]
    show (if within s x 40 then _ else _) = _
    rw [if_pos hw]
    show (if keyOk (ArenaPure.got s (x + 40) 0) then _ else _) = _
    have : ArenaPure.got s (x + 40) 0 = [] := by unfold ArenaPure.got; exact List.take_zero
    rw [this, if_neg (by decide)]
  · left; rw [if_neg hw]
theorem keyS_inj {j k : Nat} (hj : j < 30) (hk : k < 30) (h : keyS j = keyS k) : j = k := by
  have e : bs (keyS j) = bs (keyS k) := by rw [h]
  rw [(keyS_bs j hj).1, (keyS_bs k hk).1] at e
  injection e with _ e
  injection e with _ e
  injection e with _ e
  injection e with e1 e
  injection e with e2 e
  omega
end Go.Proofs.Ytmffdlebahdihaa.ArenaPure

