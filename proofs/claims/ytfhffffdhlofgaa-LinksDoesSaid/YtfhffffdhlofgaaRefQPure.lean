/- Chapter 09's reference in plain words: all items' fields laid anew come to what an item put in, or taken out, leaves. No program in sight. -/
import Derived.Test.YtfhffffdhlofgaaLinks3
namespace Go.Proofs.Ytfhffffdhlofgaa.Links
open Go Go.RowKit Go.Proofs.Ytfhffffdhlofgaa.Mem Go.Proofs.Ytfhffffdhlofgaa.CodecPure Go.Proofs.Ytfhffffdhlofgaa.ArenaPure Go.Proofs.Ytfhffffdhlofgaa.Codec Go.Proofs.Ytfhffffdhlofgaa.Arena Go.Proofs.Ytfhffffdhlofgaa.Item
set_option linter.unusedVariables false
set_option maxRecDepth 100000
def prevAt (M : List Int) (k : Nat) : Int := if 0 < k then M.getD (k - 1) 0 else -1
def nextAt (M : List Int) (k : Nat) : Int := if k + 1 < M.length then M.getD (k + 1) 0 else -1
def turn1 (s : St) (M : List Int) (k : Nat) : St := (itemSet s (M.getD k 0) 1 (prevAt M k)).1
def turn2 (s : St) (M : List Int) (k : Nat) : St := (itemSet (turn1 s M k) (M.getD k 0) 2 (nextAt M k)).1
def relayK (s : St) (M : List Int) : Nat → St
  | 0 => s
  | k + 1 => turn2 (relayK s M k) M k
def relay (s : St) (M : List Int) : St := relayK s M M.length
theorem seg_iff (s : St) (n : Int) : ∀ (L : List Int) (p : Int), Lseg s p L n ↔ ∀ i, i < L.length → place s (L.getD i 0 + 4) = (if 0 < i then L.getD (i - 1) 0 else p, 0) ∧ place s (L.getD i 0 + 8) = (if i + 1 < L.length then L.getD (i + 1) 0 else n, 0) := by
  intro L
  induction L with
  | nil => intro p; exact ⟨fun _ i hi => by simp at hi, fun _ => trivial⟩
  | cons x xs ih =>
    intro p
    have hd : xs.headD n = if 0 + 1 < (x :: xs).length then (x :: xs).getD (0 + 1) 0 else n := by
      cases xs with
      | nil => rfl
      | cons y ys => rw [if_pos (by simp)]; rfl
    have key : ∀ i, (if 0 < i then xs.getD (i - 1) 0 else x) = (x :: xs).getD i 0 := fun i => by
      cases i with
      | zero => rfl
      | succ i => rw [if_pos (Nat.succ_pos _)]; rfl
    constructor
    · rintro ⟨h1, h2, h3⟩ i hi
      cases i with
      | zero => exact ⟨h1, by rw [← hd]; exact h2⟩
      | succ i =>
        have hi' : i < xs.length := by simpa using hi
        obtain ⟨a1, a2⟩ := (ih x).1 h3 i hi'
        refine ⟨?_, ?_⟩
        · rw [if_pos (Nat.succ_pos _)]
          rw [key i] at a1
          exact a1
        · have e : (i + 1 + 1 < (x :: xs).length) = (i + 1 < xs.length) := by simp
          simp only [e]
          exact a2
    · intro h
      refine ⟨(h 0 (by simp)).1, by rw [hd]; exact (h 0 (by simp)).2, (ih x).2 fun i hi => ?_⟩
      obtain ⟨a1, a2⟩ := h (i + 1) (by simpa using hi)
      rw [if_pos (Nat.succ_pos _)] at a1
      have e : (i + 1 + 1 < (x :: xs).length) = (i + 1 < xs.length) := by simp
      simp only [e] at a2
      rw [key i]
      exact ⟨a1, a2⟩
theorem pl_none : Pl (-1) := ⟨by decide, by decide⟩
theorem at_mem {M : List Int} {i : Nat} (hi : i < M.length) : M.getD i 0 ∈ M := by rw [List.getD_eq_getElem?_getD, List.getElem?_eq_getElem hi]; exact List.getElem_mem hi
theorem apart_at {M : List Int} (h : M.Pairwise ArenaPure.Apart) {i j : Nat} (hij : i < j) (hj : j < M.length) : ArenaPure.Apart (M.getD i 0) (M.getD j 0) := by
  have := List.pairwise_iff_getElem.1 h i j (by omega) hj hij
  rw [List.getD_eq_getElem?_getD, List.getD_eq_getElem?_getD, List.getElem?_eq_getElem hj, List.getElem?_eq_getElem (show i < M.length by omega)]
  exact this
theorem relay_k {s : St} {M : List Int} (hs : Ok s) (hh : ∀ x ∈ M, within s x 40) (ha : M.Pairwise ArenaPure.Apart) : ∀ k, k ≤ M.length →
    Lay s (relayK s M k) (Flds M) ∧ ∀ i, i < k → place (relayK s M k) (M.getD i 0 + 4) = (prevAt M i, 0) ∧ place (relayK s M k) (M.getD i 0 + 8) = (nextAt M i, 0) := by
  have plp : ∀ k, k < M.length → Pl (prevAt M k) := fun k hk => by
    unfold prevAt
    split
    · exact (hdr_pl hs (hh _ (at_mem (by omega)))).1
    · exact pl_none
  have pln : ∀ k, k < M.length → Pl (nextAt M k) := fun k hk => by
    unfold nextAt
    split
    · exact (hdr_pl hs (hh _ (at_mem (by omega)))).1
    · exact pl_none
  intro k
  induction k with
  | zero => exact fun _ => ⟨Lay.refl hs _, fun i hi => by omega⟩
  | succ k ih =>
    intro hk
    obtain ⟨hl, hp⟩ := ih (by omega)
    have hm := at_mem (show k < M.length by omega)
    have hx := hl.hdr (hh _ hm)
    have x0 := (hdr_pl hs (hh _ hm)).2
    have e : relayK s M (k + 1) = sp (sp (relayK s M k) (M.getD k 0 + 4) (prevAt M k)) (M.getD k 0 + 8) (nextAt M k) := by
      show turn2 (relayK s M k) M k = _
      unfold turn2 turn1
      rw [itemSet1 hx, itemSet2 ((within_own (sp_own _ _ _) _ _).2 hx)]
    rw [e]
    obtain ⟨_, k1, q1⟩ := sp_spec hl.ok (hdr4 hx) (plp k (by omega))
    have hx1 := k1.hdr hx
    obtain ⟨_, k2, q2⟩ := sp_spec k1.ok (hdr8 hx1) (pln k (by omega))
    refine ⟨hl.trans ((k1.mono fun i hi => ⟨_, hm, by unfold Fld; omega⟩).trans (k2.mono fun i hi => ⟨_, hm, by unfold Fld; omega⟩)), fun i hi => ?_⟩
    by_cases ei : i = k
    · subst ei
      exact ⟨by rw [k2.place _ (by omega) fun j h1 h2 => by omega]; exact q1, q2⟩
    · have hik : i < k := by omega
      have ap := apart_at ha hik (show k < M.length by omega)
      have i0 := (hdr_pl hs (hh _ (at_mem (show i < M.length by omega)))).2
      unfold ArenaPure.Apart at ap
      refine ⟨?_, ?_⟩
      · rw [k2.place _ (by omega) fun j h1 h2 => by omega, k1.place _ (by omega) fun j h1 h2 => by omega]; exact (hp i hik).1
      · rw [k2.place _ (by omega) fun j h1 h2 => by omega, k1.place _ (by omega) fun j h1 h2 => by omega]; exact (hp i hik).2
theorem relay_li {s : St} {M : List Int} (hs : Ok s) (hh : ∀ x ∈ M, within s x 40) (ha : M.Pairwise ArenaPure.Apart) : LI (relay s M) M ∧ Lay s (relay s M) (Flds M) := by
  obtain ⟨h1, h2⟩ := relay_k hs hh ha M.length (Nat.le_refl _)
  exact ⟨⟨h1.ok, fun x hx => h1.hdr (hh x hx), ha, (seg_iff _ _ _ _).2 h2⟩, h1⟩
/-- the same bytes in the fields of all items -/
theorem li_bytes {t1 t2 : St} {M : List Int} (ho : t1.own = t2.own) (l1 : LI t1 M) (l2 : LI t2 M) (i : Nat) (hi : Flds M i) : t1.B[i]? = t2.B[i]? := by
  obtain ⟨x, hx, f1, f2⟩ := hi
  obtain ⟨j, hj, ej⟩ := List.getElem_of_mem hx
  have g : M.getD j 0 = x := by rw [List.getD_eq_getElem?_getD, List.getElem?_eq_getElem hj]; exact ej
  have p1 := (seg_iff _ _ _ _).1 l1.seg j hj
  have p2 := (seg_iff _ _ _ _).1 l2.seg j hj
  rw [g] at p1 p2
  by_cases h8 : (i : Int) < x + 8
  · exact same_bytes l1.ok l2.ok ho (hdr4 (l1.hdr x hx)) p1.1 p2.1 i ⟨f1, by omega⟩
  · exact same_bytes l1.ok l2.ok ho (hdr8 (l1.hdr x hx)) p1.2 p2.2 i ⟨by omega, by omega⟩
theorem li_unique {s t1 t2 : St} {M : List Int} (k1 : Lay s t1 (Flds M)) (k2 : Lay s t2 (Flds M)) (l1 : LI t1 M) (l2 : LI t2 M) : t1 = t2 := by
  have ho := k1.own.trans k2.own.symm
  refine st_ext ho fun i => ?_
  by_cases h : Flds M i
  · exact li_bytes ho l1 l2 i h
  · exact (k1.out i h).trans (k2.out i h).symm
theorem relay_put {s : St} {A C : List Int} {x : Int} (h : LI s (A ++ C)) (hat : within s x 40) (hap : ∀ y ∈ A ++ C, ArenaPure.Apart y x) : relay s (A ++ x :: C) = putS s (A.getLastD (-1)) x (C.headD (-1)) := by
  obtain ⟨p1, p2⟩ := put_seg h hat hap
  obtain ⟨r1, r2⟩ := relay_li h.ok (fun y hy => (within_own p2.own y 40).1 (p1.hdr y hy)) p1.apart
  exact li_unique r2 p2 r1 p1
/-- an item's two fields lead nowhere -/
def unlink (s : St) (x : Int) : St := (itemSet (itemSet s x 1 (-1)).1 x 2 (-1)).1
theorem relay_del {s : St} {A C : List Int} {x : Int} (h : LI s (A ++ x :: C)) : relay (unlink s x) (A ++ C) = delS s (A.getLastD (-1)) x (C.headD (-1)) := by
  obtain ⟨p1, p2, p3, p4⟩ := del_seg h
  have hx := h.hdr x (by simp)
  have x0 := (hdr_pl h.ok hx).2
  have e : unlink s x = sp (sp s (x + 4) (-1)) (x + 8) (-1) := by
    unfold unlink
    rw [itemSet1 hx, itemSet2 ((within_own (sp_own _ _ _) _ _).2 hx)]
  obtain ⟨_, k1, q1⟩ := sp_spec h.ok (hdr4 hx) pl_none
  have hx1 := k1.hdr hx
  obtain ⟨_, k2, q2⟩ := sp_spec k1.ok (hdr8 hx1) pl_none
  rw [e]
  have ku : Lay s (sp (sp s (x + 4) (-1)) (x + 8) (-1)) (Fld x) := (k1.mono fun i hi => by unfold Fld; omega).trans (k2.mono fun i hi => by unfold Fld; omega)
  have hin : ∀ y ∈ A ++ C, within s y 40 := fun y hy => h.hdr y (by rcases List.mem_append.1 hy with hy | hy <;> simp [hy])
  have hap : ∀ y ∈ A ++ C, ArenaPure.Apart y x := fun y hy => by
    obtain ⟨pA, pC0, pAC0⟩ := List.pairwise_append.1 h.apart
    rcases List.mem_append.1 hy with hy | hy
    · exact pAC0 y hy x (by simp)
    · exact ((List.pairwise_cons.1 pC0).1 y hy).symm
  obtain ⟨r1, r2⟩ := relay_li ku.ok (fun y hy => ku.hdr (hin y hy)) p1.apart
  generalize sp (sp s (x + 4) (-1)) (x + 8) (-1) = u at *
  have ho : (relay u (A ++ C)).own = (delS s (A.getLastD (-1)) x (C.headD (-1))).own := (r2.own.trans ku.own).trans p2.own.symm
  have c4 : place (relay u (A ++ C)) (x + 4) = (-1, 0) := by
    rw [r2.place (x + 4) (by omega) fun i h1 h2 hf => by obtain ⟨y, hy, f1, f2⟩ := hf; have := hap y hy; unfold ArenaPure.Apart at this; omega]
    rw [k2.place (x + 4) (by omega) fun i h1 h2 => by omega]; exact q1
  have c8 : place (relay u (A ++ C)) (x + 8) = (-1, 0) := by
    rw [r2.place (x + 8) (by omega) fun i h1 h2 hf => by obtain ⟨y, hy, f1, f2⟩ := hf; have := hap y hy; unfold ArenaPure.Apart at this; omega]
    exact q2
  refine st_ext ho fun i => ?_
  by_cases hf : Flds (A ++ C) i
  · exact li_bytes ho r1 p1 i hf
  · by_cases hx2 : Fld x i
    · have hw : within (relay u (A ++ C)) x 40 := r2.hdr (ku.hdr hx)
      obtain ⟨f1, f2⟩ := hx2
      by_cases h8 : (i : Int) < x + 8
      · exact same_bytes r1.ok p1.ok ho (hdr4 hw) c4 p3 i ⟨f1, by omega⟩
      · exact same_bytes r1.ok p1.ok ho (hdr8 hw) c8 p4 i ⟨by omega, by omega⟩
    · rw [r2.out i hf, ku.out i hx2, p2.out i fun ⟨y, hy, hq⟩ => by
        rcases List.mem_append.1 hy with hy | hy
        · exact hf ⟨y, by simp [hy], hq⟩
        · rcases List.mem_cons.1 hy with rfl | hy
          · exact hx2 hq
          · exact hf ⟨y, by simp [hy], hq⟩]
end Go.Proofs.Ytfhffffdhlofgaa.Links
