import Derived.Test.YtmffdlebahdihaaGh
import Derived.Test.YtmffdlebahdihaaGf
import Derived.Test.YtmffdlebahdihaaGn
import Derived.Test.YtmffdlebahdihaaGg
/- Chapter 13 in plain words: three queues of one arena, and what items' headers say of them. No program in sight. -/
namespace Go.Proofs.Ytmffdlebahdihaa.ArenaPure
open Go Go.RowKit Go.Proofs.Ytmffdlebahdihaa.Mem Go.Proofs.Ytmffdlebahdihaa.CodecPure Go.Proofs.Ytmffdlebahdihaa.Codec Go.Proofs.Ytmffdlebahdihaa.Arena Go.Proofs.Ytmffdlebahdihaa.Item Go.Proofs.Ytmffdlebahdihaa.Links
set_option linter.unusedVariables false
set_option maxRecDepth 100000
/-- where items lie -/
def at64 (l : List Nat) : List Int := l.map fun (k : Nat) => 64 * (k : Int)
theorem at64_mem {l : List Nat} {x : Nat} : 64 * (x : Int) ∈ at64 l ↔ x ∈ l := by
  unfold at64
  rw [List.mem_map]
  constructor
  · rintro ⟨y, hy, e⟩
    have : y = x := by omega
    exact this ▸ hy
  · exact fun h => ⟨x, h, rfl⟩
theorem at64_of {l : List Nat} {y : Int} (h : y ∈ at64 l) : ∃ k ∈ l, y = 64 * (k : Int) := by
  obtain ⟨k, hk, e⟩ := List.mem_map.1 h
  exact ⟨k, hk, e.symm⟩
theorem at64_erase (l : List Nat) (x : Nat) : (at64 l).erase (64 * (x : Int)) = at64 (l.erase x) := by
  induction l with
  | nil => rfl
  | cons y l ih =>
    by_cases e : y = x
    · subst e
      show List.erase (64 * (y : Int) :: at64 l) _ = _
      rw [List.erase_cons_head, List.erase_cons_head]
    · show List.erase (64 * (y : Int) :: at64 l) _ = _
      rw [List.erase_cons_tail (by simp; omega), List.erase_cons_tail (by simpa using e), ih]
      rfl
/-- the bytes of the fields that tell how an item is linked, and marked -/
def SegByte (i : Nat) : Prop := i < 1920 ∧ (4 ≤ i % 64 ∧ i % 64 < 12 ∨ 35 ≤ i % 64 ∧ i % 64 < 38)
def updL3 (L : Nat → List Nat) (i : Nat) (l : List Nat) : Nat → List Nat := fun j => if j = i then l else L j
def updF (F : Nat → Int → Int) (k : Nat) (f v : Int) : Nat → Int → Int := fun j g => if j = k ∧ g = f then v else F j g
def MkF (f : Int) : Prop := f = 9 ∨ f = 10 ∨ f = 11
/-- the arena of chapter 10's items, with three queues -/
structure SP (s : St) (L : Nat → List Nat) (F : Nat → Int → Int) : Prop where
  lay : Lay (laidS 30) s SegByte
  li : ∀ i, i < 3 → LI s (at64 (L i))
  fl : ∀ k : Nat, k < 30 → ∀ f, MkF f → itemGet s (64 * (k : Int)) f = (F k f, 0)
  dis : ∀ i j, i < 3 → j < 3 → i ≠ j → ∀ k ∈ L i, k ∉ L j
  lt : ∀ i, i < 3 → ∀ k ∈ L i, k < 30
  out : ∀ k : Nat, k < 30 → (∀ i, i < 3 → k ∉ L i) → place s (64 * (k : Int) + 4) = (-1, 0) ∧ place s (64 * (k : Int) + 8) = (-1, 0)
variable {s t : St} {L : Nat → List Nat} {F : Nat → Int → Int} {k i : Nat}
theorem SP.own (h : SP s L F) : s.own = [1, 1, 1, -1] := h.lay.own.trans (laidS_own 30)
theorem SP.hdr (h : SP s L F) (hk : k < 30) : within s (64 * (k : Int)) 40 := by
  have := within_part (laid_within h.own k (by omega)) 0 40 (by decide) (by decide) (by decide) (by decide)
  rwa [Int.add_zero] at this
theorem ap64 {j k : Nat} (e : j ≠ k) : ArenaPure.Apart (64 * (j : Int)) (64 * (k : Int)) := by unfold ArenaPure.Apart; omega
theorem flds_seg {M : List Nat} (h : ∀ k ∈ M, k < 30) (i : Nat) (hi : Flds (at64 M) i) : SegByte i := by
  obtain ⟨y, hy, f1, f2⟩ := hi
  obtain ⟨k, hk, rfl⟩ := at64_of hy
  have := h k hk
  unfold SegByte
  omega
theorem li_keep {M : List Nat} {l : List Nat} (h : LI s (at64 l)) (k : Lay s t (Flds (at64 M))) (hd : ∀ x ∈ l, x ∉ M) : LI t (at64 l) :=
  ⟨k.ok, fun x hx => k.hdr (h.hdr x hx), h.apart, seg_frame k _ _ _ (fun x hx => (h.pl hx).2) (fun x hx i hi ⟨y, hy, hy2⟩ => by
    obtain ⟨a, ha, rfl⟩ := at64_of hx
    obtain ⟨b, hb, rfl⟩ := at64_of hy
    exact (ap64 (j := a) (k := b) fun e => hd a ha (e ▸ hb)).flds i hi hy2) h.seg⟩
theorem get_keep {M : List Nat} (hs : Ok s) (h : Lay s t (Flds (at64 M))) (hk : within s (64 * (k : Int)) 40) {f v : Int} (hf : MkF f) (hg : itemGet s (64 * (k : Int)) f = (v, 0)) : itemGet t (64 * (k : Int)) f = (v, 0) := by
  have f3 : 0 ≤ f ∧ f ≤ 11 ∧ f ≠ 4 ∧ 35 ≤ fat f ∧ fat f + fw f ≤ 38 ∧ 0 < fw f := by rcases hf with rfl | rfl | rfl <;> decide
  obtain ⟨f0, f1, f4, fa, fb', fc⟩ := f3
  obtain ⟨g1, g2⟩ := got_of_itemGet hs hk f0 f1 f4 hg
  refine itemGet_of h.ok (h.hdr hk) f0 f1 f4 g2 ?_
  rw [h.got _ _ (by have := hk.2.1; omega) fun i h1 h2 ⟨y, hy, y1, y2⟩ => by
    obtain ⟨b, hb, rfl⟩ := at64_of hy
    omega]
  exact g1
theorem place_keep {M : List Nat} (h : Lay s t (Flds (at64 M))) (hk : k ∉ M) : place t (64 * (k : Int) + 4) = place s (64 * (k : Int) + 4) ∧ place t (64 * (k : Int) + 8) = place s (64 * (k : Int) + 8) :=
  place_lay h (by omega) fun y hy => by
    obtain ⟨b, hb, rfl⟩ := at64_of hy
    exact ap64 fun e => hk (e ▸ hb)
theorem updL3_at (L : Nat → List Nat) (i : Nat) (l : List Nat) : updL3 L i l i = l := if_pos rfl
theorem updL3_ne (L : Nat → List Nat) {i j : Nat} (l : List Nat) (h : j ≠ i) : updL3 L i l j = L j := if_neg h
/-- an item laid into a queue -/
theorem SP.push (h : SP s L F) (hi : i < 3) (hk : k < 30) (hn : ∀ j, j < 3 → k ∉ L j) :
    SP (putS s (-1) (64 * (k : Int)) ((at64 (L i)).headD (-1))) (updL3 L i (k :: L i)) F := by
  obtain ⟨q1, q2⟩ := put_seg (A := []) (C := at64 (L i)) (h.li i hi) (h.hdr hk) fun y hy => by
    obtain ⟨b, hb, rfl⟩ := at64_of hy
    exact ap64 fun e => hn i hi (e ▸ hb)
  have e1 : ([] : List Int) ++ 64 * (k : Int) :: at64 (L i) = at64 (k :: L i) := rfl
  rw [e1] at q1 q2
  have e2 : ([] : List Int).getLastD (-1) = -1 := rfl
  rw [e2] at q1 q2
  have lt30 : ∀ x ∈ k :: L i, x < 30 := fun x hx => by
    rcases List.mem_cons.1 hx with rfl | hx
    · exact hk
    · exact h.lt i hi x hx
  refine ⟨h.lay.trans (q2.mono (flds_seg lt30)), fun j hj => ?_, fun x hx f hf => get_keep h.lay.ok q2 (h.hdr hx) hf (h.fl x hx f hf), fun a b ha hb e x hx => ?_, fun j hj x hx => ?_, fun x hx hxn => ?_⟩
  · by_cases e : j = i
    · subst e; rw [updL3_at]; exact q1
    · rw [updL3_ne _ _ e]
      refine li_keep (h.li j hj) q2 fun x hx hm => ?_
      rcases List.mem_cons.1 hm with rfl | hm
      · exact hn j hj hx
      · exact h.dis j i hj hi e x hx hm
  · by_cases ea : a = i
    · subst ea
      rw [updL3_at] at hx
      rw [updL3_ne _ _ (Ne.symm e)]
      rcases List.mem_cons.1 hx with rfl | hx
      · exact hn b hb
      · exact h.dis a b ha hb e x hx
    · rw [updL3_ne _ _ ea] at hx
      by_cases eb : b = i
      · subst eb
        rw [updL3_at]
        intro hm
        rcases List.mem_cons.1 hm with rfl | hm
        · exact hn a ha hx
        · exact h.dis a b ha hb e x hx hm
      · rw [updL3_ne _ _ eb]
        exact h.dis a b ha hb e x hx
  · by_cases e : j = i
    · subst e; rw [updL3_at] at hx; exact lt30 x hx
    · rw [updL3_ne _ _ e] at hx; exact h.lt j hj x hx
  · have h0 : x ∉ k :: L i := by have := hxn i hi; rw [updL3_at] at this; exact this
    rw [(place_keep q2 h0).1, (place_keep q2 h0).2]
    refine h.out x hx fun j hj hm => ?_
    by_cases e : j = i
    · subst e; exact h0 (by simp [hm])
    · have := hxn j hj
      rw [updL3_ne _ _ e] at this
      exact this hm
/-- an item taken out of a queue -/
theorem SP.drop (h : SP s L F) (hi : i < 3) (hm : k ∈ L i) :
    SP (delS s (prevL (64 * (k : Int)) (-1) (at64 (L i))) (64 * (k : Int)) (nextOf (64 * (k : Int)) (at64 (L i)))) (updL3 L i ((L i).erase k)) F := by
  have hk := h.lt i hi k hm
  have li := h.li i hi
  have e0 : (at64 (L i)).erase (64 * (k : Int)) = at64 ((L i).erase k) := at64_erase _ _
  obtain ⟨A, C, hs, hA, -, hn, hp, he⟩ := split_at (64 * (k : Int)) (at64 (L i)) (at64_mem.2 hm)
  rw [hn, hp]
  rw [e0] at he
  have hs2 := hs
  have nd := li.nodup
  rw [hs2] at li
  obtain ⟨q1, q2, q3, q4⟩ := del_seg li
  rw [← he] at q1
  rw [← hs2] at q2
  have nk : k ∉ (L i).erase k := by
    have n0 : (L i).Nodup := by
      have nd2 : (at64 (L i)).Nodup := nd
      unfold at64 at nd2
      exact (List.pairwise_map.1 nd2).imp fun {a b} h e => h (by rw [e])
    exact fun q => ((List.Nodup.mem_erase_iff n0).1 q).1 rfl
  refine ⟨h.lay.trans (q2.mono (flds_seg (h.lt i hi))), fun j hj => ?_, fun x hx f hf => get_keep h.lay.ok q2 (h.hdr hx) hf (h.fl x hx f hf), fun a b ha hb e x hx => ?_, fun j hj x hx => ?_, fun x hx hxn => ?_⟩
  · by_cases e : j = i
    · subst e; rw [updL3_at]; exact q1
    · rw [updL3_ne _ _ e]
      exact li_keep (h.li j hj) q2 fun x hx hm => h.dis j i hj hi e x hx hm
  · have hx' : x ∈ L a := by
      by_cases ea : a = i
      · subst ea; rw [updL3_at] at hx; exact List.mem_of_mem_erase hx
      · rw [updL3_ne _ _ ea] at hx; exact hx
    intro hb2
    refine h.dis a b ha hb e x hx' ?_
    by_cases eb : b = i
    · subst eb; rw [updL3_at] at hb2; exact List.mem_of_mem_erase hb2
    · rw [updL3_ne _ _ eb] at hb2; exact hb2
  · by_cases e : j = i
    · subst e; rw [updL3_at] at hx; exact h.lt j hj x (List.mem_of_mem_erase hx)
    · rw [updL3_ne _ _ e] at hx; exact h.lt j hj x hx
  · by_cases e : x = k
    · subst e; exact ⟨q3, q4⟩
    · have h0 : x ∉ L i := fun q => by
        have := hxn i hi
        rw [updL3_at] at this
        exact this ((List.mem_erase_of_ne e).2 q)
      rw [(place_keep q2 h0).1, (place_keep q2 h0).2]
      refine h.out x hx fun j hj hm2 => ?_
      by_cases e2 : j = i
      · subst e2; exact h0 hm2
      · have := hxn j hj
        rw [updL3_ne _ _ e2] at this
        exact this hm2
/-- an item marked -/
theorem SP.mark (h : SP s L F) (hk : k < 30) {f v : Int} (hf : MkF f) (hv : 0 ≤ v ∧ v < 256) : (itemSet s (64 * (k : Int)) f v).2 = 0 ∧ SP (itemSet s (64 * (k : Int)) f v).1 L (updF F k f v) := by
  have f3 : 0 ≤ f ∧ f ≤ 11 ∧ f ≠ 4 ∧ ¬ f ≤ 3 ∧ 35 ≤ fat f ∧ fat f + fw f ≤ 38 ∧ fw f = 1 := by rcases hf with rfl | rfl | rfl <;> decide
  obtain ⟨f0, f1, f4, f5, fa, fb', fc⟩ := f3
  have hh := h.hdr hk
  have fits : Fits f v := by unfold Fits; rw [if_neg f5, fc]; exact ⟨hv.1, hv.2⟩
  rw [itemSet_lay h.lay.ok hh f0 f1 f4 fits]
  have hl := fb_length v f0 f1
  have hw4 : within s (64 * (k : Int) + fat f) (fb f v).length := by rw [hl]; exact hdr_f hh f0 f1
  have L1 := lay_frame h.lay.ok hw4 (fb_bytes f v) (fun i => 64 * (k : Int) + fat f ≤ i ∧ (i : Int) < 64 * (k : Int) + fat f + 1) fun i h1 h2 => by rw [hl, fc] at h2; exact ⟨h1, h2⟩
  have G := got_lay h.lay.ok hw4
  rw [hl] at G
  refine ⟨rfl, ⟨h.lay.trans (L1.mono fun i hi => by unfold SegByte; omega), fun j hj => ?_, fun x hx g hg => ?_, h.dis, h.lt, fun x hx hxn => ?_⟩⟩
  · have li := h.li j hj
    exact ⟨L1.ok, fun x hx => L1.hdr (li.hdr x hx), li.apart, seg_frame L1 _ _ _ (fun x hx => (li.pl hx).2) (fun x hx i hi hb => by
      obtain ⟨a, ha, rfl⟩ := at64_of hx
      unfold Fld at hi
      omega) li.seg⟩
  · have g3 : 0 ≤ g ∧ g ≤ 11 ∧ g ≠ 4 ∧ 35 ≤ fat g ∧ fat g + fw g ≤ 38 ∧ 0 < fw g := by rcases hg with rfl | rfl | rfl <;> decide
    obtain ⟨g0, g1, g4, ga, gb, gc⟩ := g3
    unfold updF
    by_cases e : x = k ∧ g = f
    · obtain ⟨rfl, rfl⟩ := e
      rw [if_pos ⟨rfl, rfl⟩]
      exact itemGet_of L1.ok (L1.hdr hh) g0 g1 g4 fits G
    · rw [if_neg e]
      obtain ⟨z1, z2⟩ := got_of_itemGet h.lay.ok (h.hdr hx) g0 g1 g4 (h.fl x hx g hg)
      refine itemGet_of L1.ok (L1.hdr (h.hdr hx)) g0 g1 g4 z2 ?_
      rw [L1.got _ _ (by omega) fun i h1 h2 h3 => ?_]
      · exact z1
      · by_cases e2 : x = k
        · subst e2
          have := fat_off g0 g1 f0 f1 fun e3 => e ⟨rfl, e3⟩
          omega
        · omega
  · have := h.out x hx hxn
    rw [L1.place _ (by omega) fun i h1 h2 h3 => by omega, L1.place _ (by omega) fun i h1 h2 h3 => by omega]
    exact this
/-- the arena behind Laid, without queues -/
theorem sp_laid : SP (laidS 30) (fun _ => []) (fun _ _ => 0) := by
  have hs := laidS_ok 30 (by decide)
  have hh : ∀ k : Nat, k < 30 → within (laidS 30) (64 * (k : Int)) 40 := fun k hk => by
    have := within_part (laid_within (laidS_own 30) k (by omega)) 0 40 (by decide) (by decide) (by decide) (by decide)
    rwa [Int.add_zero] at this
  refine ⟨Lay.refl hs _, fun i hi => ⟨hs, fun x hx => by simp [at64] at hx, List.Pairwise.nil, trivial⟩, fun k hk f hf => ?_, fun i j _ _ _ k hk => by simp at hk, fun i _ k hk => by simp at hk, fun k hk _ => ?_⟩
  · rcases hf with rfl | rfl | rfl
    · exact itemGet_of hs (hh k hk) (by decide) (by decide) (by decide) (by unfold Fits; rw [if_neg (by decide)]; decide) (laid_got 30 (by decide) k hk (64 * (k : Int) + 35, leb 0 1) (by simp [opsR]))
    · exact itemGet_of hs (hh k hk) (by decide) (by decide) (by decide) (by unfold Fits; rw [if_neg (by decide)]; decide) (laid_got 30 (by decide) k hk (64 * (k : Int) + 36, leb 0 1) (by simp [opsR]))
    · exact itemGet_of hs (hh k hk) (by decide) (by decide) (by decide) (by unfold Fits; rw [if_neg (by decide)]; decide) (laid_got 30 (by decide) k hk (64 * (k : Int) + 37, leb 0 1) (by simp [opsR]))
  · exact ⟨place_of_got hs (hdr4 (hh k hk)) ⟨by decide, by decide⟩ (laid_got 30 (by decide) k hk (64 * (k : Int) + 4, pb4 (-1)) (by simp [opsR])), place_of_got hs (hdr8 (hh k hk)) ⟨by decide, by decide⟩ (laid_got 30 (by decide) k hk (64 * (k : Int) + 8, pb4 (-1)) (by simp [opsR]))⟩
end Go.Proofs.Ytmffdlebahdihaa.ArenaPure

/- Chapter 13's acts over lists and marks alone, and what holds behind each. No program in sight. -/
namespace Go.Proofs.Ytmffdlebahdihaa.Seg
open Go Go.RowKit Go.Proofs.Ytmffdlebahdihaa.Mem Go.Proofs.Ytmffdlebahdihaa.CodecPure Go.Proofs.Ytmffdlebahdihaa.ArenaPure Go.Proofs.Ytmffdlebahdihaa.Codec Go.Proofs.Ytmffdlebahdihaa.Arena Go.Proofs.Ytmffdlebahdihaa.Item
set_option linter.unusedVariables false
set_option maxRecDepth 100000
variable {L : Nat → List Nat} {F : Nat → Int → Int} {k i : Nat}
/-- an item's segment; 3: it is in none -/
def sg (L : Nat → List Nat) (k : Nat) : Nat := if k ∈ L 0 then 0 else if k ∈ L 1 then 1 else if k ∈ L 2 then 2 else 3
theorem sg_in (h : sg L k < 3) : k ∈ L (sg L k) := by
  unfold sg at *
  split
  · assumption
  · split
    · assumption
    · split
      · assumption
      · rename_i h0 h1 h2
        rw [if_neg h0, if_neg h1, if_neg h2] at h
        omega
theorem sg_le (L : Nat → List Nat) (k : Nat) : sg L k ≤ 3 := by unfold sg; split <;> (try split) <;> (try split) <;> omega
theorem sg_some (hi : i < 3) (hk : k ∈ L i) : sg L k < 3 := by
  unfold sg
  split
  · omega
  · split
    · omega
    · split
      · omega
      · rename_i h0 h1 h2
        rcases (show i = 0 ∨ i = 1 ∨ i = 2 by omega) with rfl | rfl | rfl
        · exact absurd hk h0
        · exact absurd hk h1
        · exact absurd hk h2
theorem sg_no (h : ¬ sg L k < 3) : ∀ j, j < 3 → k ∉ L j := fun j hj hm => h (sg_some hj hm)
theorem sg_none (h : ∀ j, j < 3 → k ∉ L j) : sg L k = 3 := by
  unfold sg
  rw [if_neg (h 0 (by decide)), if_neg (h 1 (by decide)), if_neg (h 2 (by decide))]
/-- what holds of queues and marks -/
structure SI (L : Nat → List Nat) (F : Nat → Int → Int) : Prop where
  nd : ∀ i, i < 3 → (L i).Nodup
  dis : ∀ i j, i < 3 → j < 3 → i ≠ j → ∀ k ∈ L i, k ∉ L j
  lt : ∀ i, i < 3 → ∀ k ∈ L i, k < 30
  seg : ∀ i, i < 3 → ∀ k ∈ L i, F k 9 = i
  bit : ∀ k, k < 30 → 0 ≤ F k 10 ∧ F k 10 < 8
  odd : ∀ k, k < 30 → (F k 10 % 2 = 1 ↔ sg L k < 3)
  ref : ∀ k, k < 30 → 0 ≤ F k 11 ∧ F k 11 ≤ 1
theorem SI.sg_eq (h : SI L F) (hi : i < 3) (hk : k ∈ L i) : sg L k = i := by
  have h1 := sg_some hi hk
  have h2 := sg_in h1
  by_cases e : sg L k = i
  · exact e
  · exact absurd hk (h.dis _ i h1 hi e k h2)
theorem updF_at (F : Nat → Int → Int) (k : Nat) (f v : Int) : updF F k f v k f = v := if_pos ⟨rfl, rfl⟩
theorem updF_ne (F : Nat → Int → Int) {k j : Nat} {f g : Int} (v : Int) (h : j ≠ k ∨ g ≠ f) : updF F k f v j g = F j g := if_neg fun q => by rcases h with h | h; exact h q.1; exact h q.2
/-- membership behind a push -/
theorem push_mem {j x : Nat} (h : x ∈ updL3 L i (k :: L i) j) : (x = k ∧ j = i) ∨ x ∈ L j := by
  by_cases e : j = i
  · subst e
    rw [updL3_at] at h
    rcases List.mem_cons.1 h with rfl | h
    · exact .inl ⟨rfl, rfl⟩
    · exact .inr h
  · rw [updL3_ne _ _ e] at h; exact .inr h
theorem mem_push {j x : Nat} (h : (x = k ∧ j = i) ∨ x ∈ L j) : x ∈ updL3 L i (k :: L i) j := by
  by_cases e : j = i
  · subst e
    rw [updL3_at]
    rcases h with ⟨rfl, _⟩ | h
    · simp
    · simp [h]
  · rw [updL3_ne _ _ e]
    rcases h with ⟨_, h⟩ | h
    · exact absurd h e
    · exact h
theorem drop_mem {j x : Nat} (h : x ∈ updL3 L i ((L i).erase k) j) : x ∈ L j := by
  by_cases e : j = i
  · subst e; rw [updL3_at] at h; exact List.mem_of_mem_erase h
  · rw [updL3_ne _ _ e] at h; exact h
theorem mem_drop {j x : Nat} (h : x ∈ L j) (e : x ≠ k) : x ∈ updL3 L i ((L i).erase k) j := by
  by_cases e2 : j = i
  · subst e2; rw [updL3_at]; exact (List.mem_erase_of_ne e).2 h
  · rw [updL3_ne _ _ e2]; exact h
/-- push, with the item's segment and marks -/
theorem SI.push (h : SI L F) (hi : i < 3) (hk : k < 30) (hn : ¬ sg L k < 3) {G : Nat → Int → Int} (hG : ∀ x f, x ≠ k → G x f = F x f) (h9 : G k 9 = i) (hb : 0 ≤ G k 10 ∧ G k 10 < 8 ∧ G k 10 % 2 = 1) (hr : G k 11 = F k 11) : SI (updL3 L i (k :: L i)) G := by
  have nn := sg_no hn
  refine ⟨fun j hj => ?_, fun a b ha hb' e x hx hx2 => ?_, fun j hj x hx => ?_, fun j hj x hx => ?_, fun x hx => ?_, fun x hx => ?_, fun x hx => ?_⟩
  · by_cases e : j = i
    · subst e; rw [updL3_at]; exact List.nodup_cons.2 ⟨nn j hj, h.nd j hj⟩
    · rw [updL3_ne _ _ e]; exact h.nd j hj
  · rcases push_mem hx with ⟨q0, q1⟩ | hx3
    · rcases push_mem hx2 with ⟨_, q⟩ | hx4
      · exact e (q1.trans q.symm)
      · exact nn b hb' (q0 ▸ hx4)
    · rcases push_mem hx2 with ⟨q0, q1⟩ | hx4
      · exact nn a ha (q0 ▸ hx3)
      · exact h.dis a b ha hb' e x hx3 hx4
  · rcases push_mem hx with ⟨rfl, _⟩ | hx
    · exact hk
    · exact h.lt j hj x hx
  · rcases push_mem hx with ⟨rfl, rfl⟩ | hx
    · exact h9
    · rw [hG x 9 fun e => nn j hj (e ▸ hx)]
      exact h.seg j hj x hx
  · by_cases e : x = k
    · subst e; exact ⟨hb.1, hb.2.1⟩
    · rw [hG x 10 e]; exact h.bit x hx
  · by_cases e : x = k
    · subst e
      exact ⟨fun _ => sg_some hi (mem_push (.inl ⟨rfl, rfl⟩)), fun _ => hb.2.2⟩
    · rw [hG x 10 e, h.odd x hx]
      constructor
      · exact fun q => sg_some q (mem_push (.inr (sg_in q)))
      · intro q
        rcases push_mem (sg_in q) with ⟨q2, _⟩ | q2
        · exact absurd q2 e
        · exact sg_some q q2
  · by_cases e : x = k
    · subst e; rw [hr]; exact h.ref x hx
    · rw [hG x 11 e]; exact h.ref x hx
/-- an item taken out, its marks even -/
theorem SI.drop (h : SI L F) (hi : i < 3) (hm : k ∈ L i) {G : Nat → Int → Int} (hG : ∀ x f, x ≠ k → G x f = F x f) (hb : 0 ≤ G k 10 ∧ G k 10 < 8 ∧ G k 10 % 2 = 0) (hr : G k 11 = F k 11) : SI (updL3 L i ((L i).erase k)) G := by
  have out : ∀ j, j < 3 → k ∉ updL3 L i ((L i).erase k) j := fun j hj q => by
    by_cases e : j = i
    · subst e
      rw [updL3_at] at q
      exact ((List.Nodup.mem_erase_iff (h.nd j hj)).1 q).1 rfl
    · rw [updL3_ne _ _ e] at q
      exact h.dis i j hi hj (Ne.symm e) k hm q
  refine ⟨fun j hj => ?_, fun a b ha hb' e x hx hx2 => h.dis a b ha hb' e x (drop_mem hx) (drop_mem hx2), fun j hj x hx => h.lt j hj x (drop_mem hx), fun j hj x hx => ?_, fun x hx => ?_, fun x hx => ?_, fun x hx => ?_⟩
  · by_cases e : j = i
    · subst e; rw [updL3_at]; exact (h.nd j hj).erase k
    · rw [updL3_ne _ _ e]; exact h.nd j hj
  · rw [hG x 9 fun e => out j hj (e ▸ hx)]
    exact h.seg j hj x (drop_mem hx)
  · by_cases e : x = k
    · subst e; exact ⟨hb.1, hb.2.1⟩
    · rw [hG x 10 e]; exact h.bit x hx
  · by_cases e : x = k
    · subst e
      constructor
      · intro q; omega
      · exact fun q => absurd (sg_in q) (out _ q)
    · rw [hG x 10 e, h.odd x hx]
      constructor
      · exact fun q => sg_some q (mem_drop (sg_in q) e)
      · exact fun q => sg_some q (drop_mem (sg_in q))
  · by_cases e : x = k
    · subst e; rw [hr]; exact h.ref x hx
    · rw [hG x 11 e]; exact h.ref x hx
/-- an item marked anew, as odd or even as it was -/
theorem SI.mark (h : SI L F) {v : Int} (hk : k < 30) (hv : 0 ≤ v ∧ v < 8) (ho : v % 2 = F k 10 % 2) : SI L (updF F k 10 v) := by
  refine ⟨h.nd, h.dis, h.lt, fun j hj x hx => ?_, fun x hx => ?_, fun x hx => ?_, fun x hx => ?_⟩
  · rw [updF_ne _ _ (.inr (by decide))]; exact h.seg j hj x hx
  · by_cases e : x = k
    · subst e; rw [updF_at]; exact hv
    · rw [updF_ne _ _ (.inl e)]; exact h.bit x hx
  · by_cases e : x = k
    · subst e; rw [updF_at, ho]; exact h.odd x hx
    · rw [updF_ne _ _ (.inl e)]; exact h.odd x hx
  · rw [updF_ne _ _ (.inr (by decide))]; exact h.ref x hx
/-- an item held, or let go -/
theorem SI.hold (h : SI L F) {v : Int} (hk : k < 30) (hv : 0 ≤ v ∧ v ≤ 1) : SI L (updF F k 11 v) := by
  refine ⟨h.nd, h.dis, h.lt, fun j hj x hx => ?_, fun x hx => ?_, fun x hx => ?_, fun x hx => ?_⟩
  · rw [updF_ne _ _ (.inr (by decide))]; exact h.seg j hj x hx
  · rw [updF_ne _ _ (.inr (by decide))]; exact h.bit x hx
  · rw [updF_ne _ _ (.inr (by decide))]; exact h.odd x hx
  · by_cases e : x = k
    · subst e; rw [updF_at]; exact hv
    · rw [updF_ne _ _ (.inl e)]; exact h.ref x hx
theorem si_none : SI (fun _ => []) (fun _ _ => 0) :=
  ⟨fun _ _ => List.nodup_nil, fun _ _ _ _ _ k hk => by simp at hk, fun _ _ k hk => by simp at hk, fun _ _ k hk => by simp at hk, fun _ _ => by decide, fun k _ => ⟨fun h => by simp at h, fun h => by rw [sg_none fun j _ => by simp] at h; omega⟩, fun _ _ => by decide⟩
/-! ### the acts -/
abbrev St3 := (Nat → List Nat) × (Nat → Int → Int)
def addS (L : Nat → List Nat) (F : Nat → Int → Int) (k : Nat) : St3 := if sg L k < 3 then (L, F) else (updL3 L 0 (k :: L 0), updF (updF F k 9 0) k 10 1)
def addE (L : Nat → List Nat) (k : Nat) : Int := if sg L k < 3 then 4 else 0
def dropS (L : Nat → List Nat) (F : Nat → Int → Int) (k : Nat) : St3 := if sg L k < 3 then (updL3 L (sg L k) ((L (sg L k)).erase k), updF F k 10 0) else (L, F)
def dropE (L : Nat → List Nat) (k : Nat) : Int := if sg L k < 3 then 0 else 3
def bumpB (b : Int) : Int := if b / 2 % 2 = 1 then (if b < 4 then b + 4 else b) else b + 2
def bumpS (L : Nat → List Nat) (F : Nat → Int → Int) (k : Nat) : St3 := if sg L k < 3 then (L, updF F k 10 (bumpB (F k 10))) else (L, F)
def goesL (L : Nat → List Nat) (i k z : Nat) : Nat → List Nat := updL3 (updL3 L i ((L i).erase k)) z (k :: updL3 L i ((L i).erase k) z)
def goesF (F : Nat → Int → Int) (k z : Nat) : Nat → Int → Int := updF (updF F k 9 z) k 10 (F k 10 % 4)
theorem SI.add (h : SI L F) (hk : k < 30) : SI (addS L F k).1 (addS L F k).2 := by
  unfold addS
  by_cases hs : sg L k < 3
  · rw [if_pos hs]; exact h
  · rw [if_neg hs]
    show SI (updL3 L 0 (k :: L 0)) (updF (updF F k 9 0) k 10 1)
    exact h.push (by decide) hk hs (fun x f e => by rw [updF_ne _ _ (.inl e), updF_ne _ _ (.inl e)]) (by rw [updF_ne _ _ (.inr (by decide)), updF_at]; rfl) (by rw [updF_at]; decide) (by rw [updF_ne _ _ (.inr (by decide)), updF_ne _ _ (.inr (by decide))])
theorem SI.dropA (h : SI L F) (hk : k < 30) : SI (dropS L F k).1 (dropS L F k).2 := by
  unfold dropS
  by_cases hs : sg L k < 3
  · rw [if_pos hs]
    show SI (updL3 L (sg L k) ((L (sg L k)).erase k)) (updF F k 10 0)
    exact h.drop hs (sg_in hs) (fun x f e => updF_ne _ _ (.inl e)) (by rw [updF_at]; decide) (updF_ne _ _ (.inr (by decide)))
  · rw [if_neg hs]; exact h
theorem bumpB_in {b : Int} (h0 : 0 ≤ b) (h1 : b < 8) : 0 ≤ bumpB b ∧ bumpB b < 8 ∧ bumpB b % 2 = b % 2 := by
  unfold bumpB
  split
  · split <;> omega
  · omega
theorem SI.bump (h : SI L F) (hk : k < 30) : SI (bumpS L F k).1 (bumpS L F k).2 := by
  unfold bumpS
  by_cases hs : sg L k < 3
  · rw [if_pos hs]
    obtain ⟨b0, b1⟩ := h.bit k hk
    obtain ⟨c0, c1, c2⟩ := bumpB_in b0 b1
    exact h.mark hk ⟨c0, c1⟩ c2
  · rw [if_neg hs]; exact h
theorem SI.goes (h : SI L F) (hi : i < 3) (hm : k ∈ L i) {z : Nat} (ht : z < 3) : SI (goesL L i k z) (goesF F k z) := by
  have hk := h.lt i hi k hm
  obtain ⟨b0, b1⟩ := h.bit k hk
  have bo := (h.odd k hk).2 (sg_some hi hm)
  have h1 := h.drop hi hm (G := updF F k 10 0) (fun x f e => updF_ne _ _ (.inl e)) (by rw [updF_at]; decide) (updF_ne _ _ (.inr (by decide)))
  have out : ¬ sg (updL3 L i ((L i).erase k)) k < 3 := fun q => by
    have := (h1.odd k hk).2 q
    rw [updF_at] at this
    exact absurd this (by decide)
  unfold goesL goesF
  exact h1.push ht hk out (fun x f e => by rw [updF_ne _ _ (.inl e), updF_ne _ _ (.inl e), updF_ne _ _ (.inl e)]) (by rw [updF_ne _ _ (.inr (by decide)), updF_at]) (by rw [updF_at]; omega) (by rw [updF_ne _ _ (.inr (by decide)), updF_ne _ _ (.inr (by decide)), updF_ne _ _ (.inr (by decide))])
/-- how many items there are -/
def cnt (L : Nat → List Nat) : Nat := (L 0).length + (L 1).length + (L 2).length
/-- which segment juggling looks at -/
def jseg (L : Nat → List Nat) : Nat := if 5 * (L 0).length > cnt L then 0 else if 5 * (L 1).length > 2 * cnt L then 1 else 2
/-- one item moved on, if one is to be -/
def jug (L : Nat → List Nat) (F : Nat → Int → Int) : Option St3 := match (L (jseg L)).getLast? with
  | none => none
  | some k => if F k 10 ≥ 4 then some (goesL L (jseg L) k 1, goesF F k 1) else if jseg L = 2 then none else some (goesL L (jseg L) k 2, goesF F k 2)
theorem jseg_lt (L : Nat → List Nat) : jseg L < 3 := by unfold jseg; split <;> (try split) <;> omega
theorem jug_cases (L : Nat → List Nat) (F : Nat → Int → Int) : (jug L F = none ∧ ((L (jseg L) = [] ∧ jseg L = 2) ∨ ∃ A k, L (jseg L) = A ++ [k] ∧ F k 10 < 4 ∧ jseg L = 2)) ∨
    ∃ A k z, L (jseg L) = A ++ [k] ∧ jug L F = some (goesL L (jseg L) k z, goesF F k z) ∧ ((F k 10 ≥ 4 ∧ z = 1) ∨ (F k 10 < 4 ∧ z = 2 ∧ jseg L ≠ 2)) := by
  unfold jug
  rcases List.eq_nil_or_concat (L (jseg L)) with e | ⟨A, k, e⟩
  · left
    rw [e]
    refine ⟨rfl, .inl ⟨rfl, ?_⟩⟩
    unfold jseg at *
    by_cases h0 : 5 * (L 0).length > cnt L
    · rw [if_pos h0] at e
      rw [e] at h0
      simp at h0
    · rw [if_neg h0] at e ⊢
      by_cases h1 : 5 * (L 1).length > 2 * cnt L
      · rw [if_pos h1] at e
        rw [e] at h1
        simp at h1
      · rw [if_neg h1]
  · rw [List.concat_eq_append] at e
    have el : (A ++ [k]).getLast? = some k := by simp
    rw [e, el]
    dsimp only
    by_cases h4 : F k 10 ≥ 4
    · right
      rw [if_pos h4]
      exact ⟨A, k, 1, rfl, rfl, .inl ⟨h4, rfl⟩⟩
    · rw [if_neg h4]
      by_cases h2 : jseg L = 2
      · left
        rw [if_pos h2]
        exact ⟨rfl, .inr ⟨A, k, rfl, by omega, h2⟩⟩
      · right
        rw [if_neg h2]
        exact ⟨A, k, 2, rfl, rfl, .inr ⟨by omega, rfl, h2⟩⟩
theorem SI.jug (h : SI L F) {q : St3} (hq : Seg.jug L F = some q) : SI q.1 q.2 := by
  rcases jug_cases L F with ⟨h1, _⟩ | ⟨A, k, z, e, h1, h2⟩
  · rw [h1] at hq; cases hq
  · rw [h1] at hq
    cases hq
    exact h.goes (jseg_lt L) (by rw [e]; simp) (by rcases h2 with ⟨_, h2⟩ | ⟨_, h2, _⟩ <;> omega)
/-- who goes first: the eldest ones of the coldest segment ahead, five that are held at most -/
def vict (F : Nat → Int → Int) : List Nat → Nat → Int → Int × Int
  | [], _, e => (0, e)
  | k :: S, t, e => if t ≥ 5 then (0, e) else if F k 11 = 0 then (64 * (k : Int), 0) else vict F S (t + 1) 8
def line (L : Nat → List Nat) : List Nat := (L 2).reverse ++ ((L 1).reverse ++ (L 0).reverse)
end Go.Proofs.Ytmffdlebahdihaa.Seg

/- Juggling ends: what each move leaves less of. No program in sight. -/
namespace Go.Proofs.Ytmffdlebahdihaa.Seg
open Go Go.RowKit Go.Proofs.Ytmffdlebahdihaa.Mem Go.Proofs.Ytmffdlebahdihaa.CodecPure Go.Proofs.Ytmffdlebahdihaa.ArenaPure Go.Proofs.Ytmffdlebahdihaa.Codec Go.Proofs.Ytmffdlebahdihaa.Arena Go.Proofs.Ytmffdlebahdihaa.Item
set_option linter.unusedVariables false
set_option maxRecDepth 100000
variable {L : Nat → List Nat} {F : Nat → Int → Int} {k i : Nat}
def wt (i : Nat) (b : Int) : Nat := if b ≥ 4 then 2 else if i = 2 then 0 else 1
def sm (i : Nat) (l : List Nat) (F : Nat → Int → Int) : Nat := (l.map fun k => wt i (F k 10)).sum
theorem sm_congr {i : Nat} {l : List Nat} {F G : Nat → Int → Int} (h : ∀ x ∈ l, G x 10 = F x 10) : sm i l G = sm i l F := by
  unfold sm
  rw [List.map_congr_left fun x hx => by rw [h x hx]]
theorem sm_cons (i k : Nat) (l : List Nat) (F : Nat → Int → Int) : sm i (k :: l) F = wt i (F k 10) + sm i l F := rfl
theorem sm_snoc (i k : Nat) (l : List Nat) (F : Nat → Int → Int) : sm i (l ++ [k]) F = sm i l F + wt i (F k 10) := by
  unfold sm
  rw [List.map_append, List.sum_append]
  rfl
theorem sm_le (i : Nat) (F : Nat → Int → Int) : ∀ l : List Nat, sm i l F ≤ 2 * l.length
  | [] => Nat.le_refl _
  | k :: l => by
    rw [sm_cons, List.length_cons]
    have := sm_le i F l
    have : wt i (F k 10) ≤ 2 := by unfold wt; split <;> (try split) <;> omega
    omega
def pot (L : Nat → List Nat) (F : Nat → Int → Int) : Nat := sm 0 (L 0) F + sm 1 (L 1) F + sm 2 (L 2) F
theorem pot_le (L : Nat → List Nat) (F : Nat → Int → Int) : pot L F ≤ 2 * cnt L := by
  unfold pot cnt
  have h0 := sm_le 0 F (L 0)
  have h1 := sm_le 1 F (L 1)
  have h2 := sm_le 2 F (L 2)
  omega
theorem goesF_ne {x z : Nat} (h : x ≠ k) (f : Int) : goesF F k z x f = F x f := by unfold goesF; rw [updF_ne _ _ (.inl h), updF_ne _ _ (.inl h)]
theorem goesF_at (F : Nat → Int → Int) (k z : Nat) : goesF F k z k 10 = F k 10 % 4 := updF_at _ _ _ _
theorem goesL_at {A : List Nat} (e : (L i).erase k = A) (z j : Nat) : goesL L i k z j = if j = z then k :: (if j = i then A else L j) else if j = i then A else L j := by
  unfold goesL updL3
  rw [e]
  by_cases h : j = z
  · subst h; rw [if_pos rfl]
  · rw [if_neg h, if_neg h]
theorem erase_last {A : List Nat} (h : (A ++ [k]).Nodup) : (A ++ [k]).erase k = A := by
  have : k ∉ A := fun q => (List.nodup_append.1 h).2.2 k q k (by simp) rfl
  rw [List.erase_append_right _ this, List.erase_cons_head, List.append_nil]
theorem goes_cnt {A : List Nat} (hi : i < 3) (e : L i = A ++ [k]) (er : (L i).erase k = A) {z : Nat} (ht : z < 3) : cnt (goesL L i k z) = cnt L := by
  unfold cnt
  rw [goesL_at er, goesL_at er, goesL_at er]
  have hl : (L i).length = A.length + 1 := by rw [e]; simp
  rcases (show i = 0 ∨ i = 1 ∨ i = 2 by omega) with rfl | rfl | rfl <;> rcases (show z = 0 ∨ z = 1 ∨ z = 2 by omega) with rfl | rfl | rfl <;> simp <;> omega
theorem SI.jug_less (h : SI L F) {q : St3} (hq : Seg.jug L F = some q) : cnt q.1 = cnt L ∧ pot q.1 q.2 + 1 = pot L F := by
  rcases jug_cases L F with ⟨h1, _⟩ | ⟨A, k, z, e, h1, h2⟩
  · rw [h1] at hq; cases hq
  · rw [h1] at hq
    cases hq
    have hj := jseg_lt L
    have nd := h.nd _ hj
    have er : (L (jseg L)).erase k = A := by rw [e] at nd ⊢; exact erase_last nd
    have ht : z < 3 := by rcases h2 with ⟨_, h2⟩ | ⟨_, h2, _⟩ <;> omega
    refine ⟨goes_cnt hj e er ht, ?_⟩
    have hk := h.lt _ hj k (by rw [e]; simp)
    have bk := h.bit k hk
    have nA : k ∉ A := fun q => by
      rw [e] at nd
      exact (List.nodup_append.1 nd).2.2 k q k (by simp) rfl
    have cA : ∀ j, sm j A (goesF F k z) = sm j A F := fun j => sm_congr fun x hx => goesF_ne (fun q => nA (by rw [← q]; exact hx)) _
    have cO : ∀ j, j < 3 → j ≠ jseg L → sm j (L j) (goesF F k z) = sm j (L j) F := fun j hj2 ne => sm_congr fun x hx => goesF_ne (fun q => h.dis _ j hj hj2 (Ne.symm ne) k (by rw [e]; simp) (by rw [← q]; exact hx)) _
    have s0 : sm (jseg L) (L (jseg L)) F = sm (jseg L) A F + wt (jseg L) (F k 10) := by rw [e, sm_snoc]
    have w4 : ¬ F k 10 % 4 ≥ 4 := by omega
    show sm 0 (goesL L (jseg L) k z 0) _ + sm 1 (goesL L (jseg L) k z 1) _ + sm 2 (goesL L (jseg L) k z 2) _ + 1 = pot L F
    rw [goesL_at er, goesL_at er, goesL_at er]
    unfold pot
    have wk : ∀ j, wt j (goesF F k z k 10) = if j = 2 then 0 else 1 := fun j => by rw [goesF_at]; unfold wt; rw [if_neg w4]
    clear er h1 nd
    generalize jseg L = i at *
    rcases h2 with ⟨h2, rfl⟩ | ⟨h2, rfl, h3⟩
    · have w1 : wt i (F k 10) = 2 := by unfold wt; rw [if_pos h2]
      rw [w1] at s0
      rcases (show i = 0 ∨ i = 1 ∨ i = 2 by omega) with rfl | rfl | rfl
      · have c1 := cO 1 (by decide) (by decide)
        have c2 := cO 2 (by decide) (by decide)
        simp [sm_cons, wk, cA]
        omega
      · have c0 := cO 0 (by decide) (by decide)
        have c2 := cO 2 (by decide) (by decide)
        simp [sm_cons, wk, cA]
        omega
      · have c0 := cO 0 (by decide) (by decide)
        have c1 := cO 1 (by decide) (by decide)
        simp [sm_cons, wk, cA]
        omega
    · have w1 : wt i (F k 10) = 1 := by unfold wt; rw [if_neg (by omega), if_neg h3]
      rw [w1] at s0
      rcases (show i = 0 ∨ i = 1 by omega) with rfl | rfl
      · have c1 := cO 1 (by decide) (by decide)
        have c2 := cO 2 (by decide) (by decide)
        simp [sm_cons, wk, cA]
        omega
      · have c0 := cO 0 (by decide) (by decide)
        have c2 := cO 2 (by decide) (by decide)
        simp [sm_cons, wk, cA]
        omega
/-- juggling comes to an end -/
theorem jug_none (h : Seg.jug L F = none) : 5 * (L 0).length ≤ cnt L ∧ 5 * (L 1).length ≤ 2 * cnt L := by
  have hj : jseg L = 2 := by
    rcases jug_cases L F with ⟨_, ⟨_, h2⟩ | ⟨_, _, _, _, h2⟩⟩ | ⟨A, k, z, _, h1, _⟩
    · exact h2
    · exact h2
    · rw [h1] at h; cases h
  unfold jseg at hj
  by_cases h0 : 5 * (L 0).length > cnt L
  · rw [if_pos h0] at hj; omega
  · rw [if_neg h0] at hj
    by_cases h1 : 5 * (L 1).length > 2 * cnt L
    · rw [if_pos h1] at hj; omega
    · omega
end Go.Proofs.Ytmffdlebahdihaa.Seg

/- The walks of chapter 13's segments: three queues of one arena. -/
namespace Go.Proofs.Ytmffdlebahdihaa.Seg
open Go Go.RowKit Go.Proofs.Ytmffdlebahdihaa.Mem Go.Proofs.Ytmffdlebahdihaa.CodecPure Go.Proofs.Ytmffdlebahdihaa.ArenaPure Go.Proofs.Ytmffdlebahdihaa.Codec Go.Proofs.Ytmffdlebahdihaa.Arena Go.Proofs.Ytmffdlebahdihaa.Item Go.Proofs.Ytmffdlebahdihaa.Links
set_option linter.unusedVariables false
set_option maxRecDepth 100000
variable {w w' : World} {a : Ar} {s s' : St} {L : Nat → List Nat} {F : Nat → Int → Int} {i x : Nat}
structure Lh where
  b : Nat
  q : Nat → Qh
structure SW (w : World) (a : Ar) (l : Lh) (s : St) (L : Nat → List Nat) (F : Nat → Int → Int) : Prop where
  sp : SP s L F
  q : ∀ i, i < 3 → QLies w a (l.q i) s (at64 (L i))
  head : w.heap[l.b]? = some (.cells #[(.pointer (some ⟨a.g, 0, none⟩)), (.pointer (some ⟨(l.q 0).q, 0, none⟩)), (.pointer (some ⟨(l.q 1).q, 0, none⟩)), (.pointer (some ⟨(l.q 2).q, 0, none⟩))] 104 (0, 0))
  off : l.b ≠ a.g ∧ l.b ≠ a.ps ∧ l.b ∉ a.pb ∧ ∀ i, i < 3 → l.b ≠ (l.q i).q ∧ l.b ≠ (l.q i).m
  sep : ∀ i j, i < 3 → j < 3 → i ≠ j → (l.q i).q ≠ (l.q j).q ∧ (l.q i).q ≠ (l.q j).m ∧ (l.q i).m ≠ (l.q j).m
variable {l : Lh}
/-- the blocks that the segments' acts write -/
def S2 (a : Ar) (l : Lh) (x : Nat) : Prop := x ∈ a.pb ∨ ∃ i, i < 3 ∧ (x = (l.q i).q ∨ x = (l.q i).m)
theorem SW.lies (k : SW w a l s L F) : Lies w a s := (k.q 0 (by decide)).lies
theorem SW.fresh (k : SW w a l s L F) (hc : Chg (fun _ => False) w w') : SW w' a l s L F := ⟨k.sp, fun i hi => (k.q i hi).fresh hc, hc.keep k.head id, k.off, k.sep⟩
theorem SW.c0 (k : SW w a l s L F) : w.cell? ⟨l.b, 0, none⟩ = some (.pointer (some ⟨a.g, 0, none⟩)) := by rw [blk_cell k.head]; rfl
theorem SW.c1 (k : SW w a l s L F) : w.cell? ⟨l.b, 1, none⟩ = some (.pointer (some ⟨(l.q 0).q, 0, none⟩)) := by rw [blk_cell k.head]; rfl
theorem SW.c2 (k : SW w a l s L F) : w.cell? ⟨l.b, 2, none⟩ = some (.pointer (some ⟨(l.q 1).q, 0, none⟩)) := by rw [blk_cell k.head]; rfl
theorem SW.c3 (k : SW w a l s L F) : w.cell? ⟨l.b, 3, none⟩ = some (.pointer (some ⟨(l.q 2).q, 0, none⟩)) := by rw [blk_cell k.head]; rfl
theorem s2_off (k : SW w a l s L F) : ¬ S2 a l l.b := fun h => by
  rcases h with h | ⟨i, hi, h | h⟩
  · exact k.off.2.2.1 h
  · exact (k.off.2.2.2 i hi).1 h
  · exact (k.off.2.2.2 i hi).2 h
theorem s2_lt (k : SW w a l s L F) {x : Nat} (h : S2 a l x) : x < w.heap.size := by
  rcases h with h | ⟨i, hi, rfl | rfl⟩
  · obtain ⟨j, hj, rfl⟩ := k.lies.of_mem h
    exact blk_lt (k.lies.page j hj)
  · exact blk_lt (k.q i hi).head
  · exact (k.q i hi).set.lt
/-- another queue, where one has been written -/
theorem q_keep {h : Qh} {Q : List Int} {S : Nat → Prop} (k : QLies w a h s Q) (hl : Lies w' a s') (li : LI s' Q) (hc : Chg S w w') (h1 : ¬ S h.q) (h2 : ¬ S h.m) : QLies w' a h s' Q :=
  ⟨hl, li, hc.keep k.head h1, k.set.chg hc h2, k.out⟩
theorem SW.turn {L' : Nat → List Nat} {F' : Nat → Int → Int} {Q' : List Int} (k : SW w a l s L F) (hi : i < 3) (h : QLies w' a (l.q i) s' Q') (hQ : Q' = at64 (L' i)) (hL : ∀ j, j ≠ i → L' j = L j) (sp : SP s' L' F') (hc : Chg (Q2 a (l.q i)) w w') : SW w' a l s' L' F' ∧ Chg (S2 a l) w w' := by
  have hs : ∀ y, Q2 a (l.q i) y → S2 a l y := fun y hy => by
    rcases hy with hy | hy | hy
    · exact .inl hy
    · exact .inr ⟨i, hi, .inl hy⟩
    · exact .inr ⟨i, hi, .inr hy⟩
  refine ⟨⟨sp, fun j hj => ?_, hc.keep k.head fun q => s2_off k (hs _ q), k.off, k.sep⟩, hc.mono fun y _ hy => hs y hy⟩
  by_cases e : j = i
  · subst e; rw [← hQ]; exact h
  · rw [hL j e]
    refine q_keep (k.q j hj) h.lies (by rw [← hL j e]; exact sp.li j hj) hc (fun q => ?_) fun q => ?_
    · rcases q with q | q | q
      · exact (k.q j hj).out.q.2.2 q
      · exact (k.sep j i hj hi e).1 q
      · exact (k.sep j i hj hi e).2.1 q
    · rcases q with q | q | q
      · exact (k.q j hj).out.m.2.2 q
      · exact (k.sep i j hi hj (Ne.symm e)).2.1 q.symm
      · exact (k.sep j i hj hi e).2.2 q
theorem SW.marked {F' : Nat → Int → Int} (k : SW w a l s L F) (hl : Lies w' a s') (sp : SP s' L F') (hc : Chg (· ∈ a.pb) w w') : SW w' a l s' L F' ∧ Chg (S2 a l) w w' :=
  ⟨⟨sp, fun j hj => q_keep (k.q j hj) hl (sp.li j hj) hc (k.q j hj).out.q.2.2 (k.q j hj).out.m.2.2, hc.keep k.head k.off.2.2.1, k.off, k.sep⟩, hc.mono fun y _ hy => .inl hy⟩
theorem i64_64 (hx : x < 30) : I64 (64 * (x : Int)) := by unfold I64; omega
/-- an act on the words -/
def WEnd (w : World) (a : Ar) (l : Lh) (L : Nat → List Nat) (F : Nat → Int → Int) (v : Value) (e : Ending) (w' : World) : Prop := e = .returned v ∧ (∃ s, SW w' a l s L F) ∧ Chg (S2 a l) w w'
theorem SW.push (k : SW w a l s L F) (hi : i < 3) (hx : x < 30) (hn : ∀ j, j < 3 → x ∉ L j) : Calls Try.prog 102 #[(.pointer (some ⟨(l.q i).q, 0, none⟩)), (.int .i64 (64 * (x : Int)))] w (WEnd w a l (updL3 L i (x :: L i)) F (.int .i64 0)) := by
  have hw := k.sp.hdr hx
  have hm : 64 * (x : Int) ∉ at64 (L i) := fun q => hn i hi (at64_mem.1 q)
  have P := push_calls (k.q i hi) (64 * (x : Int)) (i64_64 hx) fun _ _ y hy => by
    obtain ⟨b, hb, rfl⟩ := at64_of hy
    exact ap64 fun e => hn i hi (e ▸ hb)
  have e : pushed s (at64 (L i)) (64 * (x : Int)) = (putS s (-1) (64 * (x : Int)) ((at64 (L i)).headD (-1)), 64 * (x : Int) :: at64 (L i), 0) := by
    unfold pushed
    rw [if_pos hw, if_neg hm]
  rw [e] at P
  refine P.mono fun e w' ⟨he, hq, hc⟩ => ?_
  have := k.turn hi hq (L' := updL3 L i (x :: L i)) (by rw [updL3_at]; rfl) (fun j hj => updL3_ne _ _ hj) (k.sp.push hi hx hn) hc
  exact ⟨he, ⟨_, this.1⟩, this.2⟩
theorem SW.remove (k : SW w a l s L F) (hi : i < 3) (hm : x ∈ L i) : Calls Try.prog 80 #[(.pointer (some ⟨(l.q i).q, 0, none⟩)), (.int .i64 (64 * (x : Int)))] w (WEnd w a l (updL3 L i ((L i).erase x)) F (.int .i64 0)) := by
  have P := remove_calls (k.q i hi) (64 * (x : Int))
  have e : removed s (at64 (L i)) (64 * (x : Int)) = (delS s (prevL (64 * (x : Int)) (-1) (at64 (L i))) (64 * (x : Int)) (nextOf (64 * (x : Int)) (at64 (L i))), (at64 (L i)).erase (64 * (x : Int)), 0) := by
    unfold removed
    rw [if_pos (at64_mem.2 hm)]
  rw [e] at P
  refine P.mono fun e w' ⟨he, hq, hc⟩ => ?_
  have := k.turn hi hq (L' := updL3 L i ((L i).erase x)) (by rw [updL3_at]; exact at64_erase _ _) (fun j hj => updL3_ne _ _ hj) (k.sp.drop hi hm) hc
  exact ⟨he, ⟨_, this.1⟩, this.2⟩
theorem SW.set (k : SW w a l s L F) (hx : x < 30) {f v : Int} (hf : MkF f) (hv : 0 ≤ v ∧ v < 256) : Calls Try.prog 38 #[(.pointer (some ⟨a.g, 0, none⟩)), (.int .i64 (64 * (x : Int))), (.int .i64 f), (.int .i64 v)] w (WEnd w a l L (updF F x f v) (.int .i64 0)) := by
  obtain ⟨e0, sp⟩ := k.sp.mark hx hf hv
  have P := set_calls k.lies (64 * (x : Int)) f v (i64_64 hx) (by omega)
  rw [e0] at P
  refine P.mono fun e w' ⟨he, hl, hc⟩ => ?_
  have := k.marked hl sp hc
  exact ⟨he, ⟨_, this.1⟩, this.2⟩
theorem SW.get (k : SW w a l s L F) (hx : x < 30) {f : Int} (hf : MkF f) : Calls Try.prog 31 #[(.pointer (some ⟨a.g, 0, none⟩)), (.int .i64 (64 * (x : Int))), (.int .i64 f)] w (Ans2 w (F x f) 0) := by
  have P := get_calls k.lies (64 * (x : Int)) f (i64_64 hx)
  rw [k.sp.fl x hx f hf] at P
  exact P
/-! ### queue, mark, bits, enter -/
theorem ix_q (p q r : Nat) : (∀ W : World, (Instr.index 102 (.agg #[(.pointer (some ⟨p, 0, none⟩)), (.pointer (some ⟨q, 0, none⟩)), (.pointer (some ⟨r, 0, none⟩))]) (.int .i64 0)).run Try.prog W = .ok (.pointer (some ⟨p, 0, none⟩)) W) ∧ (∀ W : World, (Instr.index 102 (.agg #[(.pointer (some ⟨p, 0, none⟩)), (.pointer (some ⟨q, 0, none⟩)), (.pointer (some ⟨r, 0, none⟩))]) (.int .i64 1)).run Try.prog W = .ok (.pointer (some ⟨q, 0, none⟩)) W) ∧
    ∀ W : World, (Instr.index 102 (.agg #[(.pointer (some ⟨p, 0, none⟩)), (.pointer (some ⟨q, 0, none⟩)), (.pointer (some ⟨r, 0, none⟩))]) (.int .i64 2)).run Try.prog W = .ok (.pointer (some ⟨r, 0, none⟩)) W := ⟨fun W => by kernel_rfl, fun W => by kernel_rfl, fun W => by kernel_rfl⟩
theorem queue_at (k : SW w a l s L F) (hi : i < 3) (hm : x ∈ L i) (hx : x < 30) : Calls Try.prog 74 #[(.pointer (some ⟨l.b, 0, none⟩)), (.int .i64 (64 * (x : Int)))] w fun e w' => e = .returned (.pointer (some ⟨(l.q i).q, 0, none⟩)) ∧ w' = w := by
  have d0 : decide (64 * (x : Int) ∈ at64 (L 0)) = decide (i = 0) := by
    rw [decide_eq_decide, at64_mem]
    exact ⟨fun h => Classical.byContradiction fun e => k.sp.dis 0 i (by decide) hi (fun q => e q.symm) x h hm, fun e => e ▸ hm⟩
  have d1 : decide (64 * (x : Int) ∈ at64 (L 1)) = decide (i = 1) := by
    rw [decide_eq_decide, at64_mem]
    exact ⟨fun h => Classical.byContradiction fun e => k.sp.dis 1 i (by decide) hi (fun q => e q.symm) x h hm, fun e => e ▸ hm⟩
  have d2 : decide (64 * (x : Int) ∈ at64 (L 2)) = decide (i = 2) := by
    rw [decide_eq_decide, at64_mem]
    exact ⟨fun h => Classical.byContradiction fun e => k.sp.dis 2 i (by decide) hi (fun q => e q.symm) x h hm, fun e => e ▸ hm⟩
  have H0 := has_calls (k.q 0 (by decide)) (64 * (x : Int))
  have H1 := has_calls (k.q 1 (by decide)) (64 * (x : Int))
  have H2 := has_calls (k.q 2 (by decide)) (64 * (x : Int))
  rw [d0] at H0
  rw [d1] at H1
  rw [d2] at H2
  have c1 := k.c1
  have c2 := k.c2
  have c3 := k.c3
  clear d0 d1 d2 hm k
  have hq : Hid (i = 0 ∨ i = 1 ∨ i = 2) := by show _ ∨ _; omega
  replace H0 := Lib.hid H0
  replace H1 := Lib.hid H1
  replace H2 := Lib.hid H2
  obtain ⟨p, hp⟩ : ∃ p, (l.q i).q = p := ⟨_, rfl⟩
  rw [hp]
  replace hp := Lib.hid hp
  obtain ⟨ix0, ix1, ix2⟩ := ix_q (l.q 0).q (l.q 1).q (l.q 2).q
  go_enter Try.func74, Try.ntmps74
  go_wp2_with fail
  go_loopg [11] 3 (fun q c wr => wr = w ∧ ((c = .int .i64 0 ∧ q = 3) ∨ (c = .int .i64 1 ∧ q = 2 ∧ i ≠ 0) ∨ (c = .int .i64 2 ∧ q = 1 ∧ i ≠ 0 ∧ i ≠ 1)))
  case atStart => exact ⟨rfl, .inl ⟨rfl, rfl⟩⟩
  case round =>
    obtain ⟨rfl, ⟨rfl, hg⟩ | ⟨rfl, hg, n0⟩ | ⟨rfl, hg, n0, n1⟩⟩ := hrel
    · replace hg := Lib.hid hg
      by_cases e : i = 0
      · subst e
        have Q : Hid (Calls Try.prog 101 #[(.pointer (some ⟨(l.q 0).q, 0, none⟩)), (.int .i64 (64 * (x : Int)))] wr fun e w' => e = .returned (.bool true) ∧ wr = w') := H0.out
        clear H0 H1 H2
        go_wp2_with fail
        refine Q.out.mono ?_
        rintro e w1 ⟨rfl, rfl⟩
        go_wp2_with fail
        go_ret
        exact ⟨by rw [hp.out]; rfl, rfl⟩
      · have Q : Hid (Calls Try.prog 101 #[(.pointer (some ⟨(l.q 0).q, 0, none⟩)), (.int .i64 (64 * (x : Int)))] wr fun e w' => e = .returned (.bool false) ∧ wr = w') := by have := H0.out; rw [decide_eq_false e] at this; exact this
        replace e := Lib.hid e
        go_wp2_with fail
        refine Q.out.mono ?_
        rintro e' w1 ⟨rfl, rfl⟩
        go_wp2_with fail
        go_roundg 2
        case measure => have := hg.out; omega
        case rel => exact ⟨rfl, .inr (.inl ⟨rfl, rfl, e.out⟩)⟩
    · replace hg := Lib.hid hg
      by_cases e : i = 1
      · subst e
        have Q : Hid (Calls Try.prog 101 #[(.pointer (some ⟨(l.q 1).q, 0, none⟩)), (.int .i64 (64 * (x : Int)))] wr fun e w' => e = .returned (.bool true) ∧ wr = w') := H1.out
        clear H0 H1 H2
        go_wp2_with fail
        refine Q.out.mono ?_
        rintro e w1 ⟨rfl, rfl⟩
        go_wp2_with fail
        go_ret
        exact ⟨by rw [hp.out]; rfl, rfl⟩
      · have Q : Hid (Calls Try.prog 101 #[(.pointer (some ⟨(l.q 1).q, 0, none⟩)), (.int .i64 (64 * (x : Int)))] wr fun e w' => e = .returned (.bool false) ∧ wr = w') := by have := H1.out; rw [decide_eq_false e] at this; exact this
        replace e := Lib.hid e
        replace n0 := Lib.hid n0
        go_wp2_with fail
        refine Q.out.mono ?_
        rintro e' w1 ⟨rfl, rfl⟩
        go_wp2_with fail
        go_roundg 1
        case measure => have := hg.out; omega
        case rel => exact ⟨rfl, .inr (.inr ⟨rfl, rfl, n0.out, e.out⟩)⟩
    · obtain rfl : i = 2 := by rcases hq.out with h | h | h; exact absurd h n0; exact absurd h n1; exact h
      have Q : Hid (Calls Try.prog 101 #[(.pointer (some ⟨(l.q 2).q, 0, none⟩)), (.int .i64 (64 * (x : Int)))] wr fun e w' => e = .returned (.bool true) ∧ wr = w') := H2.out
      clear H0 H1 H2 n0 n1 hg
      go_wp2_with fail
      refine Q.out.mono ?_
      rintro e w1 ⟨rfl, rfl⟩
      go_wp2_with fail
      go_ret
      exact ⟨by rw [hp.out]; rfl, rfl⟩
theorem queue_no (k : SW w a l s L F) (y : Int) (hy : ∀ j, j < 3 → y ∉ at64 (L j)) : Calls Try.prog 74 #[(.pointer (some ⟨l.b, 0, none⟩)), (.int .i64 y)] w fun e w' => e = .returned (.pointer none) ∧ w' = w := by
  have H0 := has_calls (k.q 0 (by decide)) y
  have H1 := has_calls (k.q 1 (by decide)) y
  have H2 := has_calls (k.q 2 (by decide)) y
  rw [decide_eq_false (hy 0 (by decide))] at H0
  rw [decide_eq_false (hy 1 (by decide))] at H1
  rw [decide_eq_false (hy 2 (by decide))] at H2
  have c1 := k.c1
  have c2 := k.c2
  have c3 := k.c3
  clear hy k
  replace H0 := Lib.hid H0
  replace H1 := Lib.hid H1
  replace H2 := Lib.hid H2
  obtain ⟨ix0, ix1, ix2⟩ := ix_q (l.q 0).q (l.q 1).q (l.q 2).q
  go_enter Try.func74, Try.ntmps74
  go_wp2_with fail
  go_loopg [11] 4 (fun q c wr => wr = w ∧ ((c = .int .i64 0 ∧ q = 4) ∨ (c = .int .i64 1 ∧ q = 3) ∨ (c = .int .i64 2 ∧ q = 2) ∨ (c = .int .i64 3 ∧ q = 1)))
  case atStart => exact ⟨rfl, .inl ⟨rfl, rfl⟩⟩
  case round =>
    obtain ⟨rfl, ⟨rfl, hg⟩ | ⟨rfl, hg⟩ | ⟨rfl, hg⟩ | ⟨rfl, hg⟩⟩ := hrel
    · replace hg := Lib.hid hg
      go_wp2_with fail
      refine H0.out.mono ?_
      rintro e w1 ⟨rfl, rfl⟩
      go_wp2_with fail
      go_roundg 3
      case measure => have := hg.out; omega
      case rel => exact ⟨rfl, .inr (.inl ⟨rfl, rfl⟩)⟩
    · replace hg := Lib.hid hg
      go_wp2_with fail
      refine H1.out.mono ?_
      rintro e w1 ⟨rfl, rfl⟩
      go_wp2_with fail
      go_roundg 2
      case measure => have := hg.out; omega
      case rel => exact ⟨rfl, .inr (.inr (.inl ⟨rfl, rfl⟩))⟩
    · replace hg := Lib.hid hg
      go_wp2_with fail
      refine H2.out.mono ?_
      rintro e w1 ⟨rfl, rfl⟩
      go_wp2_with fail
      go_roundg 1
      case measure => have := hg.out; omega
      case rel => exact ⟨rfl, .inr (.inr (.inr ⟨rfl, rfl⟩))⟩
    · clear hg H0 H1 H2
      go_wp2_with fail
      go_ret
      exact ⟨rfl, rfl⟩
theorem mark_calls (k : SW w a l s L F) (hx : x < 30) {v : Int} (hv : 0 ≤ v ∧ v < 256) : Calls Try.prog 76 #[(.pointer (some ⟨l.b, 0, none⟩)), (.int .i64 (64 * (x : Int))), (.int .i64 v)] w (WEnd w a l L (updF F x 10 v) (.tuple #[])) := by
  have c0 := k.c0
  have Q := Lib.hid (k.set hx (f := 10) (.inr (.inl rfl)) hv)
  have R : Hid (∀ w', (∃ s, SW w' a l s L (updF F x 10 v)) → Chg (S2 a l) w w' → WEnd w a l L (updF F x 10 v) (.tuple #[]) (.returned (.tuple #[])) w') := fun w' h1 h2 => ⟨rfl, h1, h2⟩
  clear k
  go_enter Try.func76, Try.ntmps76
  go_wp2_with fail
  refine Q.out.mono ?_
  rintro e w1 ⟨rfl, h1, h2⟩
  replace h1 := Lib.hid h1
  replace h2 := Lib.hid h2
  clear Q c0
  go_wp2_with fail
  go_end0
  exact R.out _ h1.out h2.out
theorem bits_calls (k : SW w a l s L F) (hx : x < 30) : Calls Try.prog 66 #[(.pointer (some ⟨l.b, 0, none⟩)), (.int .i64 (64 * (x : Int)))] w fun e w' => e = .returned (.int .i64 (F x 10)) ∧ Chg (fun _ => False) w w' := by
  have c0 := k.c0
  have Q := Lib.hid (k.get hx (f := 10) (.inr (.inl rfl)))
  clear k
  go_enter Try.func66, Try.ntmps66
  go_wp2_with fail
  refine Q.out.mono ?_
  rintro e w1 ⟨rfl, h2⟩
  replace h2 := Lib.hid h2
  clear Q c0
  go_wp2_with fail
  go_ret
  exact ⟨rfl, h2.out⟩
theorem enter_calls (k : SW w a l s L F) (hi : i < 3) (hx : x < 30) (hn : ∀ j, j < 3 → x ∉ L j) : Calls Try.prog 75 #[(.pointer (some ⟨l.b, 0, none⟩)), (.int .i64 (64 * (x : Int))), (.int .i64 ((i : Int)))] w (WEnd w a l (updL3 L i (x :: L i)) (updF F x 9 i) (.int .i64 0)) := by
  have P := k.push hi hx hn
  have c0 := k.c0
  have c1 := k.c1
  have c2 := k.c2
  have c3 := k.c3
  have ST : Hid (∀ w', (∃ s, SW w' a l s (updL3 L i (x :: L i)) F) → w'.cell? ⟨l.b, 0, none⟩ = some (.pointer (some ⟨a.g, 0, none⟩)) ∧ Calls Try.prog 38 #[(.pointer (some ⟨a.g, 0, none⟩)), (.int .i64 (64 * (x : Int))), (.int .i64 9), (.int .i64 ((i : Int)))] w' (WEnd w' a l (updL3 L i (x :: L i)) (updF F x 9 i) (.int .i64 0))) := fun w' ⟨s', h⟩ => ⟨h.c0, h.set hx (.inl rfl) (by omega)⟩
  have R : Hid (∀ w1 w', Chg (S2 a l) w w1 → (∃ s, SW w' a l s (updL3 L i (x :: L i)) (updF F x 9 i)) → Chg (S2 a l) w1 w' → WEnd w a l (updL3 L i (x :: L i)) (updF F x 9 i) (.int .i64 0) (.returned (.int .i64 0)) w') := fun w1 w' h0 h1 h2 => ⟨rfl, h1, h0.trans h2⟩
  generalize updL3 L i (x :: L i) = L2 at P ST R ⊢
  generalize updF F x 9 i = F2 at ST R ⊢
  replace P := Lib.hid P
  clear k hn
  rcases (show i = 0 ∨ i = 1 ∨ i = 2 by omega) with rfl | rfl | rfl
  all_goals
    (go_enter Try.func75, Try.ntmps75
     go_wp2_with fail
     refine P.out.mono ?_
     rintro e w1 ⟨rfl, h1, h2⟩
     obtain ⟨d0, SS⟩ := ST.out w1 h1
     replace SS := Lib.hid SS
     replace h2 := Lib.hid h2
     clear P h1 c0 c1 c2 c3
     go_wp2_with fail
     refine SS.out.mono ?_
     rintro e w2 ⟨rfl, h3, h4⟩
     replace h3 := Lib.hid h3
     replace h4 := Lib.hid h4
     clear SS d0
     go_wp2_with fail
     go_ret
     exact R.out _ _ h2.out h3.out h4.out)
end Go.Proofs.Ytmffdlebahdihaa.Seg

/- What the segments' acts answer, over lists and marks alone. -/
namespace Go.Proofs.Ytmffdlebahdihaa.Seg
open Go Go.RowKit Go.Proofs.Ytmffdlebahdihaa.Mem Go.Proofs.Ytmffdlebahdihaa.CodecPure Go.Proofs.Ytmffdlebahdihaa.ArenaPure Go.Proofs.Ytmffdlebahdihaa.Codec Go.Proofs.Ytmffdlebahdihaa.Arena Go.Proofs.Ytmffdlebahdihaa.Item Go.Proofs.Ytmffdlebahdihaa.Links
set_option linter.unusedVariables false
set_option maxRecDepth 100000
variable {B : Nat} {w0 w w' : World} {a : Ar} {s s' : St} {L : Nat → List Nat} {F : Nat → Int → Int} {i k z : Nat} {l : Lh}
/-- segments of the call's own -/
structure SE (B : Nat) (w0 w : World) (a : Ar) (l : Lh) (L : Nat → List Nat) (F : Nat → Int → Int) : Prop where
  ex : ∃ s, SW w a l s L F
  si : SI L F
  chg : Chg (fun b => B ≤ b) w0 w
  low : ∀ x, S2 a l x → B ≤ x
theorem SE.fresh (q : SE B w0 w a l L F) (hc : Chg (fun _ => False) w w') : SE B w0 w' a l L F := by
  obtain ⟨s, h⟩ := q.ex
  exact ⟨⟨s, h.fresh hc⟩, q.si, q.chg.trans (hc.mono fun _ _ h => h.elim), q.low⟩
def SEnd (B : Nat) (w0 w : World) (a : Ar) (l : Lh) (q : St3) (v : Value) (e : Ending) (w' : World) : Prop := e = .returned v ∧ SE B w0 w' a l q.1 q.2 ∧ Chg (S2 a l) w w'
theorem SE.next {q : St3} {v : Value} {e : Ending} (k : SE B w0 w a l L F) (he : e = .returned v) (h : ∃ s, SW w' a l s q.1 q.2) (hi : SI q.1 q.2) (hc : Chg (S2 a l) w w') : SEnd B w0 w a l q v e w' :=
  ⟨he, ⟨h, hi, k.chg.trans (hc.mono fun x _ hx => k.low x hx), k.low⟩, hc⟩
theorem SE.same {v : Value} {e : Ending} (k : SE B w0 w a l L F) (he : e = .returned v) (hc : Chg (fun _ => False) w w') : SEnd B w0 w a l (L, F) v e w' := ⟨he, k.fresh hc, hc.mono fun _ _ h => h.elim⟩
theorem SE.s2 (k : SE B w0 w a l L F) : ∀ x, S2 a l x → x < w.heap.size := fun x hx => by
  obtain ⟨s, h⟩ := k.ex
  exact s2_lt h hx
theorem bits_tab {b : Int} (h0 : 0 ≤ b) (h1 : b < 8) : Go.bits .andNot .i64 b 4 = b % 4 ∧ (Go.bits .and .i64 b 2 != 0) = decide (b / 2 % 2 = 1) ∧ Go.bits .or .i64 (if b / 2 % 2 = 1 then Go.bits .or .i64 b 4 else b) 2 = (if b % 2 = 1 then bumpB b else Go.bits .or .i64 (if b / 2 % 2 = 1 then Go.bits .or .i64 b 4 else b) 2) ∧ (Go.bits .and .i64 b 4 != 0) = decide (b ≥ 4) ∧ (Go.bits .and .i64 b 1 != 0) = decide (b % 2 = 1) := by
  have h : b = 0 ∨ b = 1 ∨ b = 2 ∨ b = 3 ∨ b = 4 ∨ b = 5 ∨ b = 6 ∨ b = 7 := by omega
  rcases h with rfl | rfl | rfl | rfl | rfl | rfl | rfl | rfl <;> decide +kernel
theorem not_at64 (h : ¬ sg L k < 3) : ∀ j, j < 3 → 64 * (k : Int) ∉ at64 (L j) := fun j hj q => sg_no h j hj (at64_mem.1 q)
theorem SE.addC (q : SE B w0 w a l L F) (hk : k < 30) : Calls Try.prog 36 #[(.pointer (some ⟨l.b, 0, none⟩)), (.int .i64 (64 * (k : Int)))] w (SEnd B w0 w a l (addS L F k) (.int .i64 (addE L k))) := by
  obtain ⟨s, h⟩ := q.ex
  have SI' := q.si.add hk
  by_cases hs : sg L k < 3
  · unfold addS addE
    rw [if_pos hs, if_pos hs]
    have Q := Lib.hid (queue_at h hs (sg_in hs) hk)
    have R : Hid (SEnd B w0 w a l (L, F) (.int .i64 4) (.returned (.int .i64 4)) w) := q.same rfl (Chg.refl _ _)
    clear h SI' q
    go_enter Try.func36, Try.ntmps36
    go_wp2_with fail
    refine Q.out.mono ?_
    rintro e w1 ⟨rfl, rfl⟩
    go_wp2_with fail
    go_ret
    exact R.out
  · have Q := Lib.hid (queue_no h (64 * (k : Int)) (not_at64 hs))
    have E := Lib.hid (enter_calls h (i := 0) (by decide) hk (sg_no hs))
    have M : Hid (∀ W, (∃ s, SW W a l s (updL3 L 0 (k :: L 0)) (updF F k 9 0)) → Calls Try.prog 76 #[(.pointer (some ⟨l.b, 0, none⟩)), (.int .i64 (64 * (k : Int))), (.int .i64 1)] W (WEnd W a l (updL3 L 0 (k :: L 0)) (updF (updF F k 9 0) k 10 1) (.tuple #[]))) := fun W ⟨s', h'⟩ => mark_calls h' hk (by decide)
    have R : Hid (∀ w1 w2, Chg (S2 a l) w w1 → (∃ s, SW w2 a l s (updL3 L 0 (k :: L 0)) (updF (updF F k 9 0) k 10 1)) → Chg (S2 a l) w1 w2 → SEnd B w0 w a l (addS L F k) (.int .i64 (addE L k)) (.returned (.int .i64 0)) w2) := fun w1 w2 h1 h2 h3 => by
      have e : addS L F k = (updL3 L 0 (k :: L 0), updF (updF F k 9 0) k 10 1) := by unfold addS; rw [if_neg hs]
      have e2 : addE L k = 0 := by unfold addE; rw [if_neg hs]
      rw [e] at SI' ⊢
      rw [e2]
      exact q.next rfl h2 SI' (h1.trans h3)
    generalize SEnd B w0 w a l (addS L F k) (.int .i64 (addE L k)) = P at R ⊢
    clear h SI' q hs
    go_enter Try.func36, Try.ntmps36
    go_wp2_with fail
    refine Q.out.mono ?_
    rintro e w1 ⟨rfl, rfl⟩
    go_wp2_with fail
    refine E.out.mono ?_
    rintro e w2 ⟨rfl, h1, h2⟩
    have MM := Lib.hid (M.out w2 h1)
    replace h2 := Lib.hid h2
    clear h1
    go_wp2_with fail
    refine MM.out.mono ?_
    rintro e w3 ⟨rfl, h3, h4⟩
    replace h3 := Lib.hid h3
    replace h4 := Lib.hid h4
    go_wp2_with fail
    exact R.out _ _ h2.out h3.out h4.out
theorem SE.dropC (q : SE B w0 w a l L F) (hk : k < 30) : Calls Try.prog 40 #[(.pointer (some ⟨l.b, 0, none⟩)), (.int .i64 (64 * (k : Int)))] w (SEnd B w0 w a l (dropS L F k) (.int .i64 (dropE L k))) := by
  obtain ⟨s, h⟩ := q.ex
  have SI' := q.si.dropA hk
  by_cases hs : sg L k < 3
  · have Q := Lib.hid (queue_at h hs (sg_in hs) hk)
    have E := Lib.hid (mark_calls h hk (v := 0) (by decide))
    have M : Hid (∀ W, (∃ s, SW W a l s L (updF F k 10 0)) → Calls Try.prog 80 #[(.pointer (some ⟨(l.q (sg L k)).q, 0, none⟩)), (.int .i64 (64 * (k : Int)))] W (WEnd W a l (updL3 L (sg L k) ((L (sg L k)).erase k)) (updF F k 10 0) (.int .i64 0))) := fun W ⟨s', h'⟩ => h'.remove hs (sg_in hs)
    have R : Hid (∀ w1 w2, Chg (S2 a l) w w1 → (∃ s, SW w2 a l s (updL3 L (sg L k) ((L (sg L k)).erase k)) (updF F k 10 0)) → Chg (S2 a l) w1 w2 → SEnd B w0 w a l (dropS L F k) (.int .i64 (dropE L k)) (.returned (.int .i64 0)) w2) := fun w1 w2 h1 h2 h3 => by
      have e : dropS L F k = (updL3 L (sg L k) ((L (sg L k)).erase k), updF F k 10 0) := by unfold dropS; rw [if_pos hs]
      have e2 : dropE L k = 0 := by unfold dropE; rw [if_pos hs]
      rw [e] at SI' ⊢
      rw [e2]
      exact q.next rfl h2 SI' (h1.trans h3)
    generalize SEnd B w0 w a l (dropS L F k) (.int .i64 (dropE L k)) = P at R ⊢
    clear h SI' q hs
    go_enter Try.func40, Try.ntmps40
    go_wp2_with fail
    refine Q.out.mono ?_
    rintro e w1 ⟨rfl, rfl⟩
    go_wp2_with fail
    refine E.out.mono ?_
    rintro e w2 ⟨rfl, h1, h2⟩
    have MM := Lib.hid (M.out w2 h1)
    replace h2 := Lib.hid h2
    clear h1
    go_wp2_with fail
    refine MM.out.mono ?_
    rintro e w3 ⟨rfl, h3, h4⟩
    replace h3 := Lib.hid h3
    replace h4 := Lib.hid h4
    go_wp2_with fail
    exact R.out _ _ h2.out h3.out h4.out
  · unfold dropS dropE
    rw [if_neg hs, if_neg hs]
    have Q := Lib.hid (queue_no h (64 * (k : Int)) (not_at64 hs))
    have R : Hid (SEnd B w0 w a l (L, F) (.int .i64 3) (.returned (.int .i64 3)) w) := q.same rfl (Chg.refl _ _)
    clear h SI' q
    go_enter Try.func40, Try.ntmps40
    go_wp2_with fail
    refine Q.out.mono ?_
    rintro e w1 ⟨rfl, rfl⟩
    go_wp2_with fail
    go_ret
    exact R.out
/-- one that is nowhere -/
theorem SE.dropN (q : SE B w0 w a l L F) (y : Int) (hy : ∀ j, j < 3 → y ∉ at64 (L j)) : Calls Try.prog 40 #[(.pointer (some ⟨l.b, 0, none⟩)), (.int .i64 y)] w (SEnd B w0 w a l (L, F) (.int .i64 3)) := by
  obtain ⟨s, h⟩ := q.ex
  have Q := Lib.hid (queue_no h y hy)
  have R : Hid (SEnd B w0 w a l (L, F) (.int .i64 3) (.returned (.int .i64 3)) w) := q.same rfl (Chg.refl _ _)
  clear h q
  go_enter Try.func40, Try.ntmps40
  go_wp2_with fail
  refine Q.out.mono ?_
  rintro e w1 ⟨rfl, rfl⟩
  go_wp2_with fail
  go_ret
  exact R.out
theorem SE.bumpC (q : SE B w0 w a l L F) (hk : k < 30) : Calls Try.prog 37 #[(.pointer (some ⟨l.b, 0, none⟩)), (.int .i64 (64 * (k : Int)))] w fun e w' => ∃ v, SEnd B w0 w a l (bumpS L F k) (.int .i64 v) e w' := by
  obtain ⟨s, h⟩ := q.ex
  have SI' := q.si.bump hk
  by_cases hs : sg L k < 3
  · have Q := Lib.hid (queue_at h hs (sg_in hs) hk)
    have E := Lib.hid (bits_calls h hk)
    obtain ⟨b0, b1⟩ := q.si.bit k hk
    have bo := (q.si.odd k hk).2 hs
    obtain ⟨-, t2, t3, -, -⟩ := bits_tab b0 b1
    rw [if_pos bo] at t3
    obtain ⟨c0, c1, c2⟩ := bumpB_in b0 b1
    have M : Hid (∀ W, Chg (fun _ => False) w W → Calls Try.prog 76 #[(.pointer (some ⟨l.b, 0, none⟩)), (.int .i64 (64 * (k : Int))), (.int .i64 (bumpB (F k 10)))] W (WEnd W a l L (updF F k 10 (bumpB (F k 10))) (.tuple #[]))) := fun W hW => mark_calls (h.fresh hW) hk (by omega)
    have R : Hid (∀ w1 w2, Chg (fun _ => False) w w1 → (∃ s, SW w2 a l s L (updF F k 10 (bumpB (F k 10)))) → Chg (S2 a l) w1 w2 → ∃ v, SEnd B w0 w a l (bumpS L F k) (.int .i64 v) (.returned (.int .i64 0)) w2) := fun w1 w2 h1 h2 h3 => by
      have e : bumpS L F k = (L, updF F k 10 (bumpB (F k 10))) := by unfold bumpS; rw [if_pos hs]
      rw [e] at SI' ⊢
      exact ⟨0, q.next rfl h2 SI' ((h1.mono fun _ _ h => h.elim).trans h3)⟩
    generalize hP : (fun e w' => ∃ v, SEnd B w0 w a l (bumpS L F k) (.int .i64 v) e w') = P
    have R2 : Hid (∀ w1 w2, Chg (fun _ => False) w w1 → (∃ s, SW w2 a l s L (updF F k 10 (bumpB (F k 10)))) → Chg (S2 a l) w1 w2 → P (.returned (.int .i64 0)) w2) := fun w1 w2 h1 h2 h3 => by rw [← hP]; exact R.out w1 w2 h1 h2 h3
    clear h SI' q hs R hP c0 c1 c2
    generalize F k 10 = b at *
    generalize bumpB b = bb at *
    by_cases hb : b / 2 % 2 = 1
    · rw [decide_eq_true hb] at t2
      rw [if_pos hb] at t3
      clear hb bo b0 b1
      go_enter Try.func37, Try.ntmps37
      go_wp2_with fail
      refine Q.out.mono ?_
      rintro e w1 ⟨rfl, rfl⟩
      go_wp2_with fail
      refine E.out.mono ?_
      rintro e w2 ⟨rfl, h2⟩
      have MM := Lib.hid (M.out w2 h2)
      replace h2 := Lib.hid h2
      go_wp2_with fail
      refine MM.out.mono ?_
      rintro e w3 ⟨rfl, h3, h4⟩
      replace h3 := Lib.hid h3
      replace h4 := Lib.hid h4
      go_wp2_with fail
      exact R2.out _ _ h2.out h3.out h4.out
    · rw [decide_eq_false hb] at t2
      rw [if_neg hb] at t3
      clear hb bo b0 b1
      go_enter Try.func37, Try.ntmps37
      go_wp2_with fail
      refine Q.out.mono ?_
      rintro e w1 ⟨rfl, rfl⟩
      go_wp2_with fail
      refine E.out.mono ?_
      rintro e w2 ⟨rfl, h2⟩
      have MM := Lib.hid (M.out w2 h2)
      replace h2 := Lib.hid h2
      go_wp2_with fail
      refine MM.out.mono ?_
      rintro e w3 ⟨rfl, h3, h4⟩
      replace h3 := Lib.hid h3
      replace h4 := Lib.hid h4
      go_wp2_with fail
      exact R2.out _ _ h2.out h3.out h4.out
  · unfold bumpS
    rw [if_neg hs]
    have Q := Lib.hid (queue_no h (64 * (k : Int)) (not_at64 hs))
    have R : Hid (∃ v, SEnd B w0 w a l (L, F) (.int .i64 v) (.returned (.int .i64 3)) w) := ⟨3, q.same rfl (Chg.refl _ _)⟩
    clear h SI' q
    go_enter Try.func37, Try.ntmps37
    go_wp2_with fail
    refine Q.out.mono ?_
    rintro e w1 ⟨rfl, rfl⟩
    go_wp2_with fail
    go_ret
    exact R.out
end Go.Proofs.Ytmffdlebahdihaa.Seg

/- The segments' Counts, List, goes, Juggle. -/
namespace Go.Proofs.Ytmffdlebahdihaa.Seg
open Go Go.RowKit Go.Proofs.Ytmffdlebahdihaa.Mem Go.Proofs.Ytmffdlebahdihaa.CodecPure Go.Proofs.Ytmffdlebahdihaa.ArenaPure Go.Proofs.Ytmffdlebahdihaa.Codec Go.Proofs.Ytmffdlebahdihaa.Arena Go.Proofs.Ytmffdlebahdihaa.Item Go.Proofs.Ytmffdlebahdihaa.Links
set_option linter.unusedVariables false
set_option maxRecDepth 100000
variable {B : Nat} {w0 w w' : World} {a : Ar} {s s' : St} {L : Nat → List Nat} {F : Nat → Int → Int} {i k z : Nat} {l : Lh}
theorem at64_len (m : List Nat) : (at64 m).length = m.length := List.length_map _
set_option maxHeartbeats 4000000 in
theorem counts_calls (h : SW w a l s L F) : Calls Try.prog 32 #[(.pointer (some ⟨l.b, 0, none⟩))] w fun e w' => e = .returned (.tuple #[.int .i64 (L 0).length, .int .i64 (L 1).length, .int .i64 (L 2).length]) ∧ Dr w w' := by
  have L0 := Lib.hid (fun W (hW : Chg (fun _ => False) w W) => len_calls ((h.fresh hW).q 0 (by decide)))
  have L1 := Lib.hid (fun W (hW : Chg (fun _ => False) w W) => len_calls ((h.fresh hW).q 1 (by decide)))
  have L2 := Lib.hid (fun W (hW : Chg (fun _ => False) w W) => len_calls ((h.fresh hW).q 2 (by decide)))
  have l0 := at64_len (L 0)
  have l1 := at64_len (L 1)
  have l2 := at64_len (L 2)
  rw [l0] at L0
  rw [l1] at L1
  rw [l2] at L2
  have c1 := h.c1
  have c2 := h.c2
  have c3 := h.c3
  have D : ∀ n, Chg (fun _ => False) w (w.drewN n) := fun n => Chg.drewN _ _ _
  have SEP := Lib.hid h.sep
  generalize (L 0).length = n0 at *
  generalize (L 1).length = n1 at *
  generalize (L 2).length = n2 at *
  clear h l0 l1 l2
  have sp : (l.q 1).q ≠ (l.q 0).q ∧ (l.q 2).q ≠ (l.q 0).q ∧ (l.q 2).q ≠ (l.q 1).q := ⟨(SEP.out 1 0 (by decide) (by decide) (by decide)).1, (SEP.out 2 0 (by decide) (by decide) (by decide)).1, (SEP.out 2 1 (by decide) (by decide) (by decide)).1⟩
  obtain ⟨s10, s20, s21⟩ := sp
  generalize (l.q 0).q = p0 at *
  generalize (l.q 1).q = p1 at *
  generalize (l.q 2).q = p2 at *
  obtain ⟨val, hv⟩ : ∃ val : Nat → Nat, val p0 = n0 ∧ val p1 = n1 ∧ val p2 = n2 := ⟨fun p => if p = p0 then n0 else if p = p1 then n1 else n2, if_pos rfl, by show (if p1 = p0 then _ else _) = _; rw [if_neg s10, if_pos rfl], by show (if p2 = p0 then _ else _) = _; rw [if_neg s20, if_neg s21]⟩
  obtain ⟨v0, v1, v2⟩ := hv
  have QA : Hid (∀ n p, (p = p0 ∨ p = p1 ∨ p = p2) → Calls Try.prog 64 #[(.pointer (some ⟨p, 0, none⟩))] (w.drewN n) fun e w' => e = .returned (.int .i64 (val p)) ∧ w' = w.drewN n) := fun n p hp => by
    rcases hp with rfl | rfl | rfl
    · rw [v0]; exact (L0.out _ (D n)).mono fun e w' ⟨e1, e2⟩ => ⟨e1, e2.symm⟩
    · rw [v1]; exact (L1.out _ (D n)).mono fun e w' ⟨e1, e2⟩ => ⟨e1, e2.symm⟩
    · rw [v2]; exact (L2.out _ (D n)).mono fun e w' ⟨e1, e2⟩ => ⟨e1, e2.symm⟩
  rw [← v0, ← v1, ← v2]
  clear D L0 L1 L2 SEP v0 v1 v2 s10 s20 s21
  go_enter Try.func32, Try.ntmps32
  go_wp2_with fail
  go_quiet (first | (go_at_call 64; exact Calls.quiet_of_same (QA.out _ _ (by first | exact .inl rfl | exact .inr (.inl rfl) | exact .inr (.inr rfl)))))
  go_wp2_with fail
  go_ret3
  exact ⟨rfl, (Dr.refl w).step nq⟩
def LEnd (w : World) (m : List Nat) (e : Ending) (w' : World) : Prop := ∃ A c, e = .returned (.slice A m.length c) ∧ Mem.Own w' w.heap.size 3 .i64 (.slice A m.length c) (at64 m) ∧ Chg (fun _ => False) w w'
theorem SE.len30 (q : SE B w0 w a l L F) (hi : i < 3) : (L i).length ≤ 30 := by
  have go : ∀ (m : Nat) (l : List Nat), l.Nodup → (∀ x ∈ l, x < m) → l.length ≤ m := by
    intro m
    induction m with
    | zero =>
      intro l _ h
      cases l with
      | nil => exact Nat.le_refl _
      | cons x l => exact absurd (h x (by simp)) (by omega)
    | succ m ih =>
      intro l hn h
      have := ih (l.erase m) (hn.erase m) fun x hx => by
        have h1 := h x (List.mem_of_mem_erase hx)
        have h2 : x ≠ m := ((List.Nodup.mem_erase_iff hn).1 hx).1
        omega
      rw [List.length_erase] at this
      split at this <;> omega
  exact go 30 (L i) (q.si.nd i hi) (q.si.lt i hi)
theorem SE.counts (q : SE B w0 w a l L F) : Calls Try.prog 32 #[(.pointer (some ⟨l.b, 0, none⟩))] w fun e w' => e = .returned (.tuple #[.int .i64 (L 0).length, .int .i64 (L 1).length, .int .i64 (L 2).length]) ∧ Dr w w' := by
  obtain ⟨s, h⟩ := q.ex
  exact counts_calls h
theorem SE.list (q : SE B w0 w a l L F) (hi : i < 3) : Calls Try.prog 30 #[(.pointer (some ⟨l.b, 0, none⟩)), (.int .i64 ((i : Int)))] w (LEnd w (L i)) := by
  have h30 := q.len30 hi
  obtain ⟨s, h⟩ := q.ex
  have c1 := h.c1
  have c2 := h.c2
  have c3 := h.c3
  have Q := list_calls (h.q i hi) (by rw [at64_len]; omega)
  have Q2 : Hid (Calls Try.prog 60 #[(.pointer (some ⟨(l.q i).q, 0, none⟩))] w (LEnd w (L i))) := Q.mono fun e w' ⟨v, e1, e2, e3⟩ => by
    obtain ⟨A, c, rfl⟩ := e2.form
    rw [at64_len] at e1 e2
    exact ⟨A, c, e1, e2, e3⟩
  have R : Hid (∀ A c w', Mem.Own w' w.heap.size 3 .i64 (.slice A (L i).length c) (at64 (L i)) → Chg (fun _ => False) w w' → LEnd w (L i) (.returned (.slice A (L i).length c)) w') := fun A c w' h1 h2 => ⟨A, c, rfl, h1, h2⟩
  obtain ⟨n, hn⟩ : ∃ n, (L i).length = n := ⟨_, rfl⟩
  unfold LEnd at Q2
  rw [hn] at Q2 R
  clear h Q q h30 hn
  rcases (show i = 0 ∨ i = 1 ∨ i = 2 by omega) with rfl | rfl | rfl
  all_goals
    (go_enter Try.func30, Try.ntmps30
     go_wp2_with fail
     refine Q2.out.mono ?_
     rintro e w1 ⟨A, c, rfl, ho, hc⟩
     replace ho := Lib.hid ho
     replace hc := Lib.hid hc
     clear Q2 c1 c2 c3
     go_wp2_with fail
     go_ret
     exact R.out A c _ ho.out hc.out)
theorem goes_calls (q : SE B w0 w a l L F) (hi : i < 3) (hm : k ∈ L i) (hz : z < 3) : Calls Try.prog 67 #[(.pointer (some ⟨l.b, 0, none⟩)), (.int .i64 (64 * (k : Int))), (.int .i64 ((z : Int)))] w (SEnd B w0 w a l (goesL L i k z, goesF F k z) (.tuple #[])) := by
  obtain ⟨s, h⟩ := q.ex
  have hk := q.si.lt i hi k hm
  have SI' := q.si.goes hi hm hz
  obtain ⟨b0, b1⟩ := q.si.bit k hk
  obtain ⟨t1, -⟩ := bits_tab b0 b1
  have out : ∀ j, j < 3 → k ∉ updL3 L i ((L i).erase k) j := fun j hj m => by
    by_cases e : j = i
    · subst e
      rw [updL3_at] at m
      exact ((List.Nodup.mem_erase_iff (q.si.nd j hj)).1 m).1 rfl
    · rw [updL3_ne _ _ e] at m
      exact q.si.dis i j hi hj (Ne.symm e) k hm m
  have Q := Lib.hid (queue_at h hi hm hk)
  have RM := Lib.hid (h.remove hi hm)
  have EN : Hid (∀ W, (∃ s, SW W a l s (updL3 L i ((L i).erase k)) F) → Calls Try.prog 75 #[(.pointer (some ⟨l.b, 0, none⟩)), (.int .i64 (64 * (k : Int))), (.int .i64 ((z : Int)))] W (WEnd W a l (goesL L i k z) (updF F k 9 z) (.int .i64 0))) := fun W ⟨s', h'⟩ => enter_calls h' hz hk out
  have BT : Hid (∀ W, (∃ s, SW W a l s (goesL L i k z) (updF F k 9 z)) → Calls Try.prog 66 #[(.pointer (some ⟨l.b, 0, none⟩)), (.int .i64 (64 * (k : Int)))] W fun e w' => e = .returned (.int .i64 (F k 10)) ∧ Chg (fun _ => False) W w') := fun W ⟨s', h'⟩ => by
    have := bits_calls h' hk
    rw [updF_ne F (k := k) (j := k) (f := 9) (g := 10) z (.inr (by decide))] at this
    exact this
  have MK : Hid (∀ W W', (∃ s, SW W a l s (goesL L i k z) (updF F k 9 z)) → Chg (fun _ => False) W W' → Calls Try.prog 76 #[(.pointer (some ⟨l.b, 0, none⟩)), (.int .i64 (64 * (k : Int))), (.int .i64 (F k 10 % 4))] W' (WEnd W' a l (goesL L i k z) (goesF F k z) (.tuple #[]))) := fun W W' ⟨s', h'⟩ hc => mark_calls (h'.fresh hc) hk (by omega)
  have R : Hid (∀ w1 w2 w3 w4, Chg (S2 a l) w w1 → Chg (S2 a l) w1 w2 → Chg (fun _ => False) w2 w3 → (∃ s, SW w4 a l s (goesL L i k z) (goesF F k z)) → Chg (S2 a l) w3 w4 → SEnd B w0 w a l (goesL L i k z, goesF F k z) (.tuple #[]) (.returned (.tuple #[])) w4) := fun w1 w2 w3 w4 h1 h2 h3 h4 h5 => q.next rfl h4 SI' (((h1.trans h2).trans (h3.mono fun _ _ h => h.elim)).trans h5)
  generalize SEnd B w0 w a l (goesL L i k z, goesF F k z) (.tuple #[]) = P at R ⊢
  generalize goesL L i k z = L2 at *
  generalize goesF F k z = F2 at *
  generalize updF F k 9 z = F1 at *
  generalize updL3 L i ((L i).erase k) = L1 at *
  generalize F k 10 = b at *
  generalize b % 4 = b4 at *
  clear h q SI' out b0 b1 hm
  go_enter Try.func67, Try.ntmps67
  go_wp2_with fail
  refine Q.out.mono ?_
  rintro e w1 ⟨rfl, rfl⟩
  clear Q
  go_wp2_with fail
  refine RM.out.mono ?_
  rintro e w2 ⟨rfl, h1, c1⟩
  have E2 := Lib.hid (EN.out _ h1)
  replace c1 := Lib.hid c1
  clear h1 RM EN
  go_wp2_with fail
  refine E2.out.mono ?_
  rintro e w3 ⟨rfl, h1, c2⟩
  have B2 := Lib.hid (BT.out _ h1)
  replace h1 := Lib.hid h1
  replace c2 := Lib.hid c2
  clear E2 BT
  go_wp2_with fail
  refine B2.out.mono ?_
  rintro e w4 ⟨rfl, c3⟩
  have M2 := Lib.hid (MK.out _ _ h1.out c3)
  replace c3 := Lib.hid c3
  clear B2 MK h1
  go_wp2_with fail
  refine M2.out.mono ?_
  rintro e w5 ⟨rfl, h4, c4⟩
  replace h4 := Lib.hid h4
  replace c4 := Lib.hid c4
  clear M2
  go_wp2_with fail
  go_end0
  exact R.out _ _ _ _ c1.out c2.out c3.out h4.out c4.out
end Go.Proofs.Ytmffdlebahdihaa.Seg

