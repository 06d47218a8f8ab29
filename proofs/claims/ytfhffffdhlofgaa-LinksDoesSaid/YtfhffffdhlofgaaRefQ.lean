/- Chapter 09's reference queue in memory, and what its functions do. -/
import Derived.Test.YtfhffffdhlofgaaRefQPure
import Derived.Test.YtfhffffdhlofgaaSlice
import Derived.BigQuiet
import Derived.Deep.LoopGhost
import Derived.Deep.QuietTactic
import Derived.StillTailTactics
namespace Go.Proofs.Ytfhffffdhlofgaa.Links
open Go Go.RowKit Go.Proofs.Ytfhffffdhlofgaa.Mem Go.Proofs.Ytfhffffdhlofgaa.CodecPure Go.Proofs.Ytfhffffdhlofgaa.ArenaPure Go.Proofs.Ytfhffffdhlofgaa.Codec Go.Proofs.Ytfhffffdhlofgaa.Arena Go.Proofs.Ytfhffffdhlofgaa.Item
set_option linter.unusedVariables false
set_option maxRecDepth 100000
/-- the reference's queue: its header p, the reference's arena r, its list's row in blocks from C on -/
structure RQ (C : Nat) (w : World) (r : Ra) (p : Nat) (s : St) (L : List Int) : Prop where
  ref : RLies w r s
  v : ∃ A c, w.heap[p]? = some (.cells #[(.pointer (some ⟨r.g, 0, none⟩)), .slice A L.length c] 50 (0, 0)) ∧ Mem.Own w C 3 .i64 (.slice A L.length c) L
  lo : r.g < C ∧ r.o < C ∧ r.b < C ∧ p < C ∧ C ≤ w.heap.size
  sep : p ≠ r.g ∧ p ≠ r.o ∧ p ≠ r.b
  i64 : ∀ x ∈ L, I64 x
  most : L.length ≤ 1000000
variable {C p : Nat} {w w' : World} {r : Ra} {s : St} {L : List Int}
theorem own_chg {W W' : World} {base : Nat} {e : TypeId} {k : IntKind} {A : Option Addr} {n c : Nat} {l : List Int} {S : Nat → Prop} (ho : Mem.Own W base e k (.slice A n c) l) (hc : Chg S W W') (hoff : ∀ x, S x → x < base) : Mem.Own W' base e k (.slice A n c) l := ho.chg hc fun g eg hq => by
  cases A with
  | none => simp [Value.ownBlock] at eg
  | some ad =>
    simp [Value.ownBlock] at eg
    have := (ho.base ad rfl).1
    have := hoff _ hq
    omega
theorem RQ.chg {S : Nat → Prop} (k : RQ C w r p s L) (hc : Chg S w w') (hS : ∀ x, S x → x < C ∧ x ≠ r.g ∧ x ≠ r.o ∧ x ≠ r.b ∧ x ≠ p) : RQ C w' r p s L := by
  obtain ⟨A, c, h1, h2⟩ := k.v
  exact ⟨k.ref.chg hc (fun h => (hS _ h).2.1 rfl) (fun h => (hS _ h).2.2.1 rfl) (fun h => (hS _ h).2.2.2.1 rfl), ⟨A, c, hc.keep h1 fun h => (hS _ h).2.2.2.2 rfl, own_chg h2 hc fun x hx => (hS x hx).1⟩, ⟨k.lo.1, k.lo.2.1, k.lo.2.2.1, k.lo.2.2.2.1, Nat.le_trans k.lo.2.2.2.2 hc.size⟩, k.sep, k.i64, k.most⟩
theorem RQ.fresh (k : RQ C w r p s L) (hc : Chg (fun _ => False) w w') : RQ C w' r p s L := k.chg hc fun _ h => h.elim
/-- the reference's arena has turned alone -/
theorem RQ.arena {s' : St} (k : RQ C w r p s L) (hl : RLies w' r s') (hc : Chg r.has w w') : RQ C w' r p s' L := by
  obtain ⟨A, c, h1, h2⟩ := k.v
  have hp : ¬ r.has p := fun h => h.elim k.sep.2.1 k.sep.2.2
  exact ⟨hl, ⟨A, c, hc.keep h1 hp, own_chg h2 hc fun x hx => by
    rcases hx with rfl | rfl
    · exact k.lo.2.1
    · exact k.lo.2.2.1⟩, ⟨k.lo.1, k.lo.2.1, k.lo.2.2.1, k.lo.2.2.2.1, Nat.le_trans k.lo.2.2.2.2 hc.size⟩, k.sep, k.i64, k.most⟩
theorem RQ.open (k : RQ C w r p s L) : ∃ A c, w.cell? ⟨p, 0, none⟩ = some (.pointer (some ⟨r.g, 0, none⟩)) ∧ w.cell? ⟨p, 1, none⟩ = some (.slice A L.length c) ∧ w.heap[p]? = some (.cells #[(.pointer (some ⟨r.g, 0, none⟩)), .slice A L.length c] 50 (0, 0)) ∧ Mem.Own w C 3 .i64 (.slice A L.length c) L := by
  obtain ⟨A, c, h1, h2⟩ := k.v
  exact ⟨A, c, by rw [blk_cell h1]; rfl, by rw [blk_cell h1]; rfl, h1, h2⟩
def placeL (L : List Int) (x : Int) : Int := if x ∈ L then (L.idxOf x : Int) else -1
theorem idx_first : ∀ (L : List Int) (x : Int) (k : Nat), k < L.length → L.getD k 0 = x → (∀ j, j < k → L.getD j 0 ≠ x) → x ∈ L ∧ L.idxOf x = k := by
  intro L x
  induction L with
  | nil => intro k hk; simp at hk
  | cons y ys ih =>
    intro k hk h1 h2
    cases k with
    | zero =>
      have : y = x := h1
      subst this
      exact ⟨by simp, by simp⟩
    | succ k =>
      have hy : y ≠ x := h2 0 (Nat.succ_pos _)
      obtain ⟨a1, a2⟩ := ih k (by simpa using hk) h1 fun j hj => h2 (j + 1) (by omega)
      refine ⟨List.mem_cons_of_mem _ a1, ?_⟩
      rw [List.idxOf_cons, a2]
      have : (y == x) = false := by rw [beq_eq_false_iff_ne]; exact hy
      rw [this]; rfl
theorem not_there (L : List Int) (x : Int) (h : ∀ j, j < L.length → L.getD j 0 ≠ x) : x ∉ L := fun hx => by
  obtain ⟨j, hj, ej⟩ := List.getElem_of_mem hx
  exact h j hj (by rw [List.getD_eq_getElem?_getD, List.getElem?_eq_getElem hj]; exact ej)
theorem rplace_calls (k : RQ C w r p s L) (x : Int) : Calls Try.prog 63 #[(.pointer (some ⟨p, 0, none⟩)), (.int .i64 x)] w fun e w' => e = .returned (.int .i64 (placeL L x)) ∧ Chg (fun _ => False) w w' := by
  obtain ⟨A, c, c0, c1, -, ho⟩ := k.open
  have hs := Lib.hid ho.sl
  have hm := k.most
  obtain ⟨n, hn⟩ : ∃ n, L.length = n := ⟨_, rfl⟩
  rw [hn] at c1 hm
  have F : Hid (∀ e w', (∃ j, j < n ∧ L.getD j 0 = x ∧ (∀ i, i < j → L.getD i 0 ≠ x) ∧ e = Ending.returned ((.int .i64 j))) → Chg (fun _ => False) w w' → e = .returned (.int .i64 (placeL L x)) ∧ Chg (fun _ => False) w w') := fun e w' ⟨j, h1, h2, h3, h4⟩ hw => by
    obtain ⟨a1, a2⟩ := idx_first L x j (by omega) h2 h3
    unfold placeL
    rw [if_pos a1, a2]
    exact ⟨h4, hw⟩
  have G : Hid (∀ e w', (∀ i, i < n → L.getD i 0 ≠ x) → e = Ending.returned ((.int .i64 (-1))) → Chg (fun _ => False) w w' → e = .returned (.int .i64 (placeL L x)) ∧ Chg (fun _ => False) w w') := fun e w' h1 h2 hw => by
    unfold placeL
    rw [if_neg (not_there L x (by rw [hn]; exact h1))]
    exact ⟨h2, hw⟩
  replace hn := Lib.hid hn
  replace c0 := Lib.hid c0
  replace c1 := Lib.hid c1
  clear ho k
  go_enter Try.func63, Try.ntmps63
  have c1' := c1.out
  go_wp2_with fail
  go_loopg [5] n (fun g i wr => ∃ k : Nat, i = .int .i64 k ∧ g = n - k ∧ k ≤ n ∧ Hid (Dr w wr) ∧ Hid (∀ i, i < k → L.getD i 0 ≠ x))
  case atStart => exact ⟨0, rfl, rfl, by omega, Dr.refl w, fun i hi => by omega⟩
  case round =>
    clear c1'
    obtain ⟨k, rfl, hg, hk, HD, HN⟩ := hrel
    obtain ⟨wo, rfl⟩ : ∃ wo : World, wo = wr := ⟨_, rfl⟩
    replace hg := Lib.hid hg
    have hc := HD.out.chg (fun _ => False)
    have c1' := hc.cell c1.out id
    replace hc := Lib.hid hc
    by_cases h1 : k < n
    · have h1' : (k : Int) < n := by omega
      obtain ⟨ad, rfl, e0⟩ := (hs.out.chg hc.out fun _ _ => id) k (by rw [hn.out]; exact h1)
      by_cases e : L.getD k 0 = x
      · have E := Lib.hid e
        rw [e] at e0
        clear e
        go_wp2_with fail
        go_ret
        exact F.out _ _ ⟨k, h1, E.out, HN.out, rfl⟩ hc.out
      · have E := Lib.hid e
        have t : (L.getD k 0 == x) = false := by rw [beq_eq_false_iff_ne]; exact e
        clear e
        have HN2 : Hid (∀ i, i < k + 1 → L.getD i 0 ≠ x) := fun i hi => by
          by_cases e : i = k
          · rw [e]; exact E.out
          · exact HN.out i (by omega)
        generalize L.getD k 0 = y at e0 t E
        go_wp2_with fail
        go_roundg (n - (k + 1))
        case measure => have := hg.out; omega
        case rel => exact ⟨k + 1, rfl, rfl, by omega, HD.out, HN2.out⟩
    · have h1' : ¬ (k : Int) < n := by omega
      go_wp2_with fail
      go_ret
      exact G.out _ _ (fun i hi => HN.out i (by omega)) rfl hc.out
theorem placeL_neg (L : List Int) (x : Int) : (0 ≤ placeL L x ↔ x ∈ L) ∧ placeL L x < 1000000000000 + L.length ∧ -1 ≤ placeL L x := by
  unfold placeL
  split
  · rename_i h
    have := List.idxOf_lt_length_iff.2 h
    exact ⟨⟨fun _ => h, fun _ => by omega⟩, by omega, by omega⟩
  · rename_i h
    exact ⟨⟨fun q => by omega, fun q => absurd q h⟩, by omega, by omega⟩
theorem rhas_calls (k : RQ C w r p s L) (x : Int) : Calls Try.prog 32 #[(.pointer (some ⟨p, 0, none⟩)), (.int .i64 x)] w fun e w' => e = .returned (.bool (decide (x ∈ L))) ∧ Chg (fun _ => False) w w' := by
  have P := Lib.hid (rplace_calls k x)
  have e := (placeL_neg L x).1
  have hd : decide (x ∈ L) = decide (0 ≤ placeL L x) := by rw [decide_eq_decide]; exact e.symm
  rw [hd]
  generalize placeL L x = y at P ⊢
  clear e hd k
  go_enter Try.func32, Try.ntmps32
  go_wp2_with fail
  refine P.out.mono ?_
  rintro e w1 ⟨rfl, hc⟩
  replace hc := Lib.hid hc
  go_wp2_with fail
  go_ret
  exact ⟨rfl, hc.out⟩
theorem rmay_calls (k : RQ C w r p s L) (x : Int) (hx : I64 x) : Calls Try.prog 61 #[(.pointer (some ⟨p, 0, none⟩)), (.int .i64 x)] w fun e w' => e = .returned (.int .i64 (if within s x 40 then if x ∈ L then 4 else 0 else 1)) ∧ Chg (fun _ => False) w w' := by
  obtain ⟨A, c, c0, c1, -, ho⟩ := k.open
  have P := refread_calls k.ref x 40 hx
  have K := Lib.hid k
  unfold readA at P
  clear ho k c1
  by_cases hw : within s x 40
  · rw [if_pos hw] at P
    rw [if_pos hw]
    replace P := Lib.hid P
    generalize got s x 40 = gl at P
    clear hw hx
    by_cases hm : x ∈ L
    · rw [if_pos hm]
      have HB := Lib.hid (decide_eq_true hm)
      clear hm
      go_enter Try.func61, Try.ntmps61
      go_wp2_with fail
      refine P.out.mono ?_
      rintro e w1 ⟨A1, c1, rfl, -, hc⟩
      have H := Lib.hid (rhas_calls (K.out.fresh hc) x)
      rw [HB.out] at H
      replace hc := Lib.hid hc
      clear P c0
      go_wp2_with fail
      refine H.out.mono ?_
      rintro e w2 ⟨rfl, hc2⟩
      replace hc2 := Lib.hid hc2
      clear H
      go_wp2_with fail
      go_ret
      exact ⟨rfl, hc.out.trans hc2.out⟩
    · rw [if_neg hm]
      have HB := Lib.hid (decide_eq_false hm)
      clear hm
      go_enter Try.func61, Try.ntmps61
      go_wp2_with fail
      refine P.out.mono ?_
      rintro e w1 ⟨A1, c1, rfl, -, hc⟩
      have H := Lib.hid (rhas_calls (K.out.fresh hc) x)
      rw [HB.out] at H
      replace hc := Lib.hid hc
      clear P c0
      go_wp2_with fail
      refine H.out.mono ?_
      rintro e w2 ⟨rfl, hc2⟩
      replace hc2 := Lib.hid hc2
      clear H
      go_wp2_with fail
      go_ret
      exact ⟨rfl, hc.out.trans hc2.out⟩
  · rw [if_neg hw] at P
    rw [if_neg hw]
    replace P := Lib.hid P
    clear hw hx
    go_enter Try.func61, Try.ntmps61
    go_wp2_with fail
    refine P.out.mono ?_
    rintro e w1 ⟨A1, c1, rfl, -, hc⟩
    replace hc := Lib.hid hc
    clear P c0
    go_wp2_with fail
    go_ret
    exact ⟨rfl, hc.out⟩
theorem relay_range {M : List Int} (h : ∀ x ∈ M, I64 x) (k : Nat) : I64 (prevAt M k) ∧ I64 (nextAt M k) := by
  have i1 : I64 (-1) := ⟨by decide, by decide⟩
  unfold prevAt nextAt
  constructor
  · split
    · rw [List.getD_eq_getElem?_getD]
      cases e : M[k - 1]? with
      | none => exact ⟨by decide, by decide⟩
      | some y => exact h y (List.mem_of_getElem? e)
    · exact i1
  · split
    · exact h _ (at_mem (by omega))
    · exact i1
set_option maxHeartbeats 2000000 in
theorem rlay_calls (k : RQ C w r p s L) : Calls Try.prog 65 #[(.pointer (some ⟨p, 0, none⟩))] w fun e w' => e = .returned (.tuple #[]) ∧ RQ C w' r p (relay s L) L ∧ Chg r.has w w' := by
  have hi := Lib.hid k.i64
  have hm := k.most
  have K := Lib.hid k
  obtain ⟨n, hn⟩ : ∃ n, L.length = n := ⟨_, rfl⟩
  rw [hn] at hm
  unfold relay
  rw [hn]
  replace hn := Lib.hid hn
  obtain ⟨A, c, c0, c1, -, ho⟩ := k.open
  rw [hn.out] at c1
  have hp : ¬ r.has p := fun h => h.elim k.sep.2.1 k.sep.2.2
  have CF : Hid (∀ W, Chg r.has w W → W.cell? ⟨p, 0, none⟩ = some (.pointer (some ⟨r.g, 0, none⟩)) ∧ W.cell? ⟨p, 1, none⟩ = some (.slice A n c) ∧ Sl W .i64 A L) := fun W hc => ⟨hc.cell c0 hp, hc.cell c1 hp, (own_chg ho hc fun x hx => by
    rcases hx with rfl | rfl
    · exact k.lo.2.1
    · exact k.lo.2.2.1).sl⟩
  clear k ho hp
  go_enter Try.func65, Try.ntmps65
  go_wp2_with fail
  go_loopg [2] n (fun g i wr => ∃ k : Nat, i = .int .i64 k ∧ g = n - k ∧ k ≤ n ∧ Hid (RQ C wr r p (relayK s L k) L) ∧ Hid (Chg r.has w wr))
  case atStart => exact ⟨0, rfl, rfl, by omega, K.out, Chg.refl _ _⟩
  case round =>
    clear c0 c1
    obtain ⟨k, rfl, hg, hk, K1, HC⟩ := hrel
    obtain ⟨wo, rfl⟩ : ∃ wo : World, wo = wr := ⟨_, rfl⟩
    replace hg := Lib.hid hg
    obtain ⟨d0, d1, ds⟩ := CF.out wo HC.out
    by_cases h1 : k < n
    · have h1' : (k : Int) < n := by omega
      obtain ⟨ad, rfl, e0⟩ := ds k (by rw [hn.out]; exact h1)
      obtain ⟨r2, hr⟩ : ∃ r2, k + 1 = r2 := ⟨_, rfl⟩
      have hr' : (k : Int) + 1 = r2 := by omega
      have PV : (0 < (k : Int) ∧ ∃ (j : Nat) (pv : Int), (k : Int) - 1 = j ∧ (j : Int) < n ∧ Hid (prevAt L k = pv) ∧ wo.cell? (ad.add j) = some (.int .i64 pv)) ∨ (¬ 0 < (k : Int) ∧ Hid (prevAt L k = -1)) := by
        by_cases q : 0 < k
        · obtain ⟨ad2, e, hc⟩ := ds (k - 1) (by rw [hn.out]; omega)
          cases e
          exact .inl ⟨by omega, k - 1, L.getD (k - 1) 0, by omega, by omega, if_pos q, hc⟩
        · exact .inr ⟨by omega, if_neg q⟩
      have NV : ((r2 : Int) < n ∧ ∃ (nv : Int), Hid (nextAt L k = nv) ∧ wo.cell? (ad.add r2) = some (.int .i64 nv)) ∨ (¬ (r2 : Int) < n ∧ Hid (nextAt L k = -1)) := by
        by_cases q : r2 < n
        · obtain ⟨ad2, e, hc⟩ := ds r2 (by rw [hn.out]; omega)
          cases e
          exact .inl ⟨by omega, L.getD r2 0, by unfold nextAt; rw [hr]; exact if_pos (by rw [hn.out]; exact q), hc⟩
        · exact .inr ⟨by omega, by unfold nextAt; rw [hr]; exact if_neg (by rw [hn.out]; exact q)⟩
      have RG := Lib.hid (relay_range hi.out k)
      have IY := Lib.hid (hi.out _ (at_mem (show k < L.length by rw [hn.out]; exact h1)))
      have E2 : Hid (relayK s L r2 = turn2 (relayK s L k) L k) := by rw [← hr]; rfl
      have S1 : Hid (∀ W, RLies W r (relayK s L k) → Calls Try.prog 64 #[(.pointer (some ⟨r.g, 0, none⟩)), (.int .i64 (L.getD k 0)), (.int .i64 1), (.int .i64 (prevAt L k))] W (RNow W r (turn1 (relayK s L k) L k) (itemSet (relayK s L k) (L.getD k 0) 1 (prevAt L k)).2)) := fun W hl => refset_calls hl _ 1 _ IY.out RG.out.1
      have S2 : Hid (∀ W, RLies W r (turn1 (relayK s L k) L k) → Calls Try.prog 64 #[(.pointer (some ⟨r.g, 0, none⟩)), (.int .i64 (L.getD k 0)), (.int .i64 2), (.int .i64 (nextAt L k))] W (RNow W r (turn2 (relayK s L k) L k) (itemSet (turn1 (relayK s L k) L k) (L.getD k 0) 2 (nextAt L k)).2)) := fun W hl => refset_calls hl _ 2 _ IY.out RG.out.2
      replace hr := Lib.hid hr
      clear ds
      generalize (itemSet (relayK s L k) (L.getD k 0) 1 (prevAt L k)).2 = er1 at S1
      generalize (itemSet (turn1 (relayK s L k) L k) (L.getD k 0) 2 (nextAt L k)).2 = er2 at S2
      replace E2 := E2.out
      obtain ⟨s2, e2⟩ : ∃ s2, turn2 (relayK s L k) L k = s2 := ⟨_, rfl⟩
      rw [e2] at S2 E2
      replace E2 := Lib.hid E2
      clear e2
      generalize turn1 (relayK s L k) L k = s1 at S1 S2
      generalize relayK s L k = sk at S1 K1
      have Y : Hid (∃ y, L.getD k 0 = y) := ⟨_, rfl⟩
      obtain ⟨y, hy⟩ := Y.out
      rw [hy] at e0 S1 S2
      replace hy := Lib.hid hy
      rcases PV with ⟨q1, j, pv, hj, hjn, PV, cp⟩ | ⟨q1, PV⟩ <;> rcases NV with ⟨q2, nv, NV, cn⟩ | ⟨q2, NV⟩ <;>
      (rw [PV.out] at S1
       rw [NV.out] at S2
       go_wp2_with fail
       go_still_tail 12, (by kernel_rfl)
       change wpList _ _ _ _ _ wo.drew
       have R1 : Hid (RQ C wo.drew r p sk L) := K1.out.fresh (Chg.drew _ _)
       have C1 : Hid (Chg r.has w wo.drew) := HC.out.trans (Chg.drew _ _)
       have SS := Lib.hid (S1.out _ R1.out.ref)
       clear d0 d1 e0
       generalize wo.drew = w2 at R1 C1 SS ⊢
       go_wp2_with fail
       refine SS.out.mono ?_
       rintro e w3 ⟨rfl, hl3, hc3⟩
       have R3 := Lib.hid (R1.out.arena hl3 hc3)
       have C3 := Lib.hid (C1.out.trans hc3)
       clear hl3 hc3 SS R1 C1
       obtain ⟨d0, d1, ds⟩ := CF.out w3 C3.out
       obtain ⟨ad3, ea, e0⟩ := ds k (by rw [hn.out]; exact h1)
       cases ea
       rw [hy.out] at e0
       clear ds
       go_wp2_with fail
       go_still_tail 12, (by kernel_rfl)
       change wpList _ _ _ _ _ w3.drew
       have R4 : Hid (RQ C w3.drew r p s1 L) := R3.out.fresh (Chg.drew _ _)
       have C4 : Hid (Chg r.has w w3.drew) := C3.out.trans (Chg.drew _ _)
       have SS := Lib.hid (S2.out _ R4.out.ref)
       clear d0 d1 e0
       generalize w3.drew = w4 at R4 C4 SS ⊢
       go_wp2_with fail
       refine SS.out.mono ?_
       rintro e w5 ⟨rfl, hl5, hc5⟩
       have R5 := Lib.hid (R4.out.arena hl5 hc5)
       have C5 := Lib.hid (C4.out.trans hc5)
       clear hl5 hc5 SS R4 C4
       go_wp2_with fail
       go_roundg (n - r2)
       case measure => have := hg.out; have := hr.out; omega
       case rel => exact ⟨r2, rfl, rfl, by have := hr.out; omega, by rw [E2.out]; exact R5.out, C5.out⟩)
    · have h1' : ¬ (k : Int) < n := by omega
      obtain rfl : k = n := by omega
      go_wp2_with fail
      go_end0
      exact ⟨rfl, K1.out, HC.out⟩
end Go.Proofs.Ytfhffffdhlofgaa.Links
