/- A queue of the call's own over chunks of 64 bytes, as its functions leave it. -/
import Derived.Test.YtfhffffdhlofgaaLinksList
import Derived.Test.YtfhffffdhlofgaaMade
import Derived.Test.YtfhffffdhlofgaaSame06
namespace Go.Proofs.Ytfhffffdhlofgaa.Links
open Go Go.RowKit Go.Proofs.Ytfhffffdhlofgaa.Mem Go.Proofs.Ytfhffffdhlofgaa.CodecPure Go.Proofs.Ytfhffffdhlofgaa.ArenaPure Go.Proofs.Ytfhffffdhlofgaa.Codec Go.Proofs.Ytfhffffdhlofgaa.Arena Go.Proofs.Ytfhffffdhlofgaa.Item
set_option linter.unusedVariables false
set_option maxRecDepth 100000
variable {B : Nat} {w0 w w' : World} {a : Ar} {h : Qh} {s : St} {L : List Int}
theorem madeS_own : (madeS 4).own = [1, 1, 1, -1] := by decide +kernel
theorem within_chunk {s : St} (ho : s.own = [1, 1, 1, -1]) {x : Int} (hx : x % 64 = 0) : within s x 40 ↔ 0 ≤ x ∧ x < 3072 := by
  unfold within
  rw [ho]
  constructor
  · rintro ⟨h1, h2, h3, h4, h5⟩
    refine ⟨h2, ?_⟩
    have e : x / 1024 < 4 := by simp at h3; omega
    by_cases q : x / 1024 = 3
    · rw [q] at h4; simp at h4
    · omega
  · rintro ⟨h1, h2⟩
    have e : (x / 1024).toNat < 3 := by omega
    refine ⟨by omega, h1, ?_, ?_, by omega⟩
    · simp; omega
    · generalize (x / 1024).toNat = k at e
      match k, e with
      | 0, _ => decide
      | 1, _ => decide
      | 2, _ => decide
theorem not_within_far {s : St} (ho : s.own = [1, 1, 1, -1]) {x : Int} (hx : x < 0 ∨ 4096 ≤ x) : ¬ within s x 40 := by
  unfold within
  rw [ho]
  rintro ⟨h1, h2, h3, h4, h5⟩
  simp at h3
  omega
/-- a place of a chunk, or far off -/
def Chunk (x : Int) : Prop := x % 64 = 0 ∨ x < 0 ∨ 4096 ≤ x
theorem Chunk.within {s : St} (ho : s.own = [1, 1, 1, -1]) {x : Int} (hx : Chunk x) : within s x 40 ↔ (x % 64 = 0 ∧ 0 ≤ x ∧ x < 3072) := by
  by_cases e : x % 64 = 0
  · rw [within_chunk ho e]
    exact ⟨fun h => ⟨e, h⟩, fun h => h.2⟩
  · have := not_within_far ho (hx.resolve_left e)
    exact ⟨fun h => absurd h this, fun h => absurd h.1 e⟩
/-- the queue lies in blocks from B on; its items are chunks; the fields of chunks that are not in it lead nowhere -/
structure QA (B : Nat) (w0 w : World) (a : Ar) (h : Qh) (s : St) (L : List Int) : Prop where
  here : Here B w0 w a s
  q : QLies w a h s L
  low : B ≤ h.q ∧ B ≤ h.m
  mult : ∀ y ∈ L, y % 64 = 0
  own : s.own = [1, 1, 1, -1]
  clean : ∀ x, x % 64 = 0 → within s x 40 → x ∉ L → (place s (x + 4)).1 ≤ 0 ∧ (place s (x + 8)).1 ≤ 0
theorem QA.fresh (k : QA B w0 w a h s L) (hc : Chg (fun _ => False) w w') : QA B w0 w' a h s L :=
  ⟨k.here.fresh hc, k.q.fresh hc, k.low, k.mult, k.own, k.clean⟩
theorem QA.below (k : QA B w0 w a h s L) (hB : B ≤ w0.heap.size) : Below B w0 w := k.here.below hB
theorem chunk_apart {x y : Int} (hx : x % 64 = 0) (hy : y % 64 = 0) (e : x ≠ y) : ArenaPure.Apart x y := by
  unfold ArenaPure.Apart; omega
theorem QA.ap (k : QA B w0 w a h s L) {x : Int} (hx : Chunk x) : within s x 40 → x ∉ L → ∀ y ∈ L, ArenaPure.Apart y x := fun hw hm y hy =>
  chunk_apart (k.mult y hy) ((hx.within k.own).1 hw).1 fun e => hm (e ▸ hy)
theorem place_lay {s t : St} {M : List Int} (h : Lay s t (Flds M)) {x : Int} (h0 : 0 ≤ x) (ha : ∀ y ∈ M, ArenaPure.Apart y x) : place t (x + 4) = place s (x + 4) ∧ place t (x + 8) = place s (x + 8) := by
  refine ⟨h.place _ (by omega) fun i h1 h2 hf => ?_, h.place _ (by omega) fun i h1 h2 hf => ?_⟩ <;> obtain ⟨y, hy, f1, f2⟩ := hf <;> have := ha y hy <;> unfold ArenaPure.Apart at this <;> omega
theorem QA.next (k : QA B w0 w a h s L) {s' : St} {L' : List Int} (hq : QLies w' a h s' L') (hc : Chg (Q2 a h) w w') (hm : ∀ y ∈ L', y % 64 = 0) (ho : s'.own = s.own)
    (hcl : ∀ x, x % 64 = 0 → within s x 40 → x ∉ L' → (place s' (x + 4)).1 ≤ 0 ∧ (place s' (x + 8)).1 ≤ 0) : QA B w0 w' a h s' L' :=
  ⟨⟨hq.lies, k.here.chg.trans (hc.mono fun b _ hb => by
    rcases hb with hb | rfl | rfl
    · exact k.here.low.2.2 b hb
    · exact k.low.1
    · exact k.low.2), k.here.low⟩, hq, k.low, hm, by rw [ho, k.own], fun x h1 h2 => hcl x h1 ((within_own ho x 40).1 h2)⟩
/-- what an act answers, and how it leaves the queue -/
def QNow (B : Nat) (w0 w : World) (a : Ar) (h : Qh) (r : St × List Int × Int) (e : Ending) (w' : World) : Prop :=
  e = .returned (.int .i64 r.2.2) ∧ QA B w0 w' a h r.1 r.2.1 ∧ Chg (Q2 a h) w w'
theorem QA.push (k : QA B w0 w a h s L) {x : Int} (hx : Chunk x) (hi : I64 x) : Calls Try.prog 16 #[(.pointer (some ⟨h.q, 0, none⟩)), (.int .i64 x)] w (QNow B w0 w a h (pushed s L x)) :=
  (push_calls k.q x hi (k.ap hx)).mono fun e w1 ⟨h1, h2, h3⟩ => by
    refine ⟨h1, ?_, h3⟩
    unfold pushed at h2 ⊢
    by_cases hw : within s x 40
    · rw [if_pos hw] at h2 ⊢
      by_cases hm : x ∈ L
      · rw [if_pos hm] at h2 ⊢
        exact k.next h2 h3 k.mult rfl k.clean
      · rw [if_neg hm] at h2 ⊢
        have P := put_seg (A := []) (C := L) k.q.li hw (k.ap hx hw hm)
        have ex := ((hx.within k.own).1 hw).1
        refine k.next h2 h3 (fun y hy => ?_) P.2.own fun z h4 h5 h6 => ?_
        · rcases List.mem_cons.1 hy with rfl | hy
          · exact ex
          · exact k.mult y hy
        · simp only [List.mem_cons, not_or] at h6
          have z0 := ((within_chunk k.own h4).1 h5).1
          have E := place_lay P.2 z0 fun y hy => chunk_apart (by
            rcases List.mem_cons.1 hy with rfl | hy
            · exact ex
            · exact k.mult y hy) h4 fun e => by
              subst e
              rcases List.mem_cons.1 hy with e | hy
              · exact h6.1 e
              · exact h6.2 hy
          have c := k.clean z h4 h5 h6.2
          show (place (putS s (-1) x (L.headD (-1))) (z + 4)).1 ≤ 0 ∧ _
          exact ⟨by rw [show place (putS s (-1) x (L.headD (-1))) (z + 4) = _ from E.1]; exact c.1, by rw [show place (putS s (-1) x (L.headD (-1))) (z + 8) = _ from E.2]; exact c.2⟩
    · rw [if_neg hw] at h2 ⊢
      exact k.next h2 h3 k.mult rfl k.clean
theorem QA.insert (k : QA B w0 w a h s L) {b x : Int} (hx : Chunk x) (hb : I64 b) (hi : I64 x) : Calls Try.prog 20 #[(.pointer (some ⟨h.q, 0, none⟩)), (.int .i64 b), (.int .i64 x)] w (QNow B w0 w a h (inserted s L b x)) :=
  (insert_calls k.q b x hb hi (k.ap hx)).mono fun e w1 ⟨h1, h2, h3⟩ => by
    refine ⟨h1, ?_, h3⟩
    unfold inserted at h2 ⊢
    by_cases hb : b ∈ L
    · rw [if_pos hb] at h2 ⊢
      unfold insTail at h2 ⊢
      by_cases hw : within s x 40
      · rw [if_pos hw] at h2 ⊢
        by_cases hm : x ∈ L
        · rw [if_pos hm] at h2 ⊢
          exact k.next h2 h3 k.mult rfl k.clean
        · rw [if_neg hm] at h2 ⊢
          obtain ⟨A, C, hL, hA, h4, h5, h6, h7⟩ := split_at b L hb
          have ex := ((hx.within k.own).1 hw).1
          have e0 : L = (A ++ [b]) ++ C := by rw [hL]; simp
          have kli := k.q.li
          rw [e0] at kli
          have P := put_seg kli hw (by rw [← e0]; exact k.ap hx hw hm)
          have el : (A ++ [b]).getLastD (-1) = b := by simp
          rw [el, ← h5] at P
          have hmem : ∀ y, y ∈ A ++ [b] ++ x :: C → y = x ∨ y ∈ L := fun y hy => by
            rw [e0]
            simp at hy ⊢
            rcases hy with hy | rfl | rfl | hy
            · exact .inr (.inl hy)
            · exact .inr (.inr (.inl rfl))
            · exact .inl rfl
            · exact .inr (.inr (.inr hy))
          have hmem2 : ∀ y, y ∈ A ++ [b] ++ x :: C ↔ y ∈ ins b x L := fun y => by rw [h4]; simp
          have hmod : ∀ y ∈ A ++ [b] ++ x :: C, y % 64 = 0 := fun y hy => by
            rcases hmem y hy with rfl | hy
            · exact ex
            · exact k.mult y hy
          refine k.next h2 h3 (fun y hy => hmod y ((hmem2 y).2 hy)) P.2.own fun z h8 h9 h10 => ?_
          have z0 := ((within_chunk k.own h8).1 h9).1
          have E := place_lay P.2 z0 fun y hy => chunk_apart (hmod y hy) h8 fun e => h10 (e ▸ (hmem2 y).1 hy)
          have c := k.clean z h8 h9 fun hz => h10 ((hmem2 z).1 (by rw [e0] at hz; simp at hz ⊢; rcases hz with hz | rfl | hz; exact .inl hz; exact .inr (.inl rfl); exact .inr (.inr (.inr hz))))
          exact ⟨by rw [E.1]; exact c.1, by rw [E.2]; exact c.2⟩
      · rw [if_neg hw] at h2 ⊢
        exact k.next h2 h3 k.mult rfl k.clean
    · rw [if_neg hb] at h2 ⊢
      exact k.next h2 h3 k.mult rfl k.clean
theorem QA.remove (k : QA B w0 w a h s L) (x : Int) : Calls Try.prog 15 #[(.pointer (some ⟨h.q, 0, none⟩)), (.int .i64 x)] w (QNow B w0 w a h (removed s L x)) :=
  (remove_calls k.q x).mono fun e w1 ⟨h1, h2, h3⟩ => by
    refine ⟨h1, ?_, h3⟩
    unfold removed at h2 ⊢
    by_cases hm : x ∈ L
    · rw [if_pos hm] at h2 ⊢
      obtain ⟨A, C, hL, hA, h4, h5, h6, h7⟩ := split_at x L hm
      have kli := k.q.li
      rw [hL] at kli
      obtain ⟨P1, P2, P3, P4⟩ := del_seg kli
      rw [← h5, ← h6] at P1 P2 P3 P4
      have mA : ∀ y, y ∈ A ++ C → y ∈ L := fun y hy => by rw [hL]; simp at hy ⊢; rcases hy with hy | hy; exact .inl hy; exact .inr (.inr hy)
      refine k.next h2 h3 (fun y hy => k.mult y (List.mem_of_mem_erase hy)) P2.own fun z h8 h9 h10 => ?_
      have z0 := ((within_chunk k.own h8).1 h9).1
      by_cases ez : z = x
      · subst ez
        exact ⟨by rw [P3]; decide, by rw [P4]; decide⟩
      · have hz : z ∉ L := fun hz => h10 (by rw [h7]; rw [hL] at hz; simp at hz ⊢; rcases hz with hz | hz | hz; exact .inl hz; exact absurd hz ez; exact .inr hz)
        have E := place_lay P2 z0 fun y hy => chunk_apart (k.mult y (by rw [hL]; exact hy)) h8 fun e => hz (by rw [← e, hL]; exact hy)
        have c := k.clean z h8 h9 hz
        exact ⟨by rw [E.1]; exact c.1, by rw [E.2]; exact c.2⟩
    · rw [if_neg hm] at h2 ⊢
      exact k.next h2 h3 k.mult rfl k.clean
end Go.Proofs.Ytfhffffdhlofgaa.Links
