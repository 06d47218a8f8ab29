/- The walk of the law ArenaClean: it returns true at any number of pages, place, bytes and page. -/
import Derived.Test.YtalcoodfoifmcaaArenaPages
import Derived.BigQuiet
import Derived.Deep.QuietTactic
namespace Go.Proofs.Ytalcoodfoifmcaa.Arena
open Go Go.RowKit Go.Proofs.Ytalcoodfoifmcaa.Mem Go.Proofs.Ytalcoodfoifmcaa.CodecPure Go.Proofs.Ytalcoodfoifmcaa.ArenaPure Go.Proofs.Ytalcoodfoifmcaa.Codec
set_option linter.unusedVariables false
/-- k pages granted, each with b at its place; the others free and clean -/
structure CInv (s : St) (n k at_ : Nat) (b : List Int) : Prop where
  ok : Ok s
  own : s.own = List.replicate k 0 ++ List.replicate (n - k) (-1)
  kn : k ≤ n
  pages : ∀ i, i < n → pg s.B i = if i < k then splice Z1024 at_ b else Z1024
theorem CInv.len {s : St} {n k at_ : Nat} {b : List Int} (h : CInv s n k at_ b) : s.own.length = n := by
  have := h.kn
  rw [h.own, List.length_append, List.length_replicate, List.length_replicate]; omega
theorem CInv.get {s : St} {n k at_ : Nat} {b : List Int} (h : CInv s n k at_ b) (i : Nat) (hi : i < n) : s.own.getD i 0 = if i < k then 0 else -1 := by
  have := h.kn
  rw [h.own, List.getD_eq_getElem?_getD]
  by_cases e : i < k
  · rw [if_pos e, List.getElem?_append_left (by rw [List.length_replicate]; exact e), List.getElem?_replicate, if_pos e]; rfl
  · rw [if_neg e, List.getElem?_append_right (by rw [List.length_replicate]; omega), List.length_replicate, List.getElem?_replicate, if_pos (by omega)]; rfl
theorem CInv.start (n at_ : Nat) (b : List Int) (h1 : 1 ≤ n) (h2 : n ≤ 32) : CInv (new n) n 0 at_ b :=
  ⟨new_ok n h1 h2, by simp [new], Nat.zero_le _, fun i hi => by rw [if_neg (by omega)]; exact new_pg n i hi⟩
theorem set_next (n k : Nat) (h : k < n) : (List.replicate k (0 : Int) ++ List.replicate (n - k) (-1)).set k 0 = List.replicate (k + 1) 0 ++ List.replicate (n - (k + 1)) (-1) := by
  apply List.ext_getElem?
  intro i
  rw [List.getElem?_set]
  by_cases e : k = i
  · subst e
    rw [if_pos rfl, if_pos (by rw [List.length_append, List.length_replicate, List.length_replicate]; omega), List.getElem?_append_left (by rw [List.length_replicate]; omega), List.getElem?_replicate, if_pos (by omega)]
  · rw [if_neg e]
    by_cases h1 : i < k
    · rw [List.getElem?_append_left (by rw [List.length_replicate]; omega), List.getElem?_append_left (by rw [List.length_replicate]; omega), List.getElem?_replicate, List.getElem?_replicate, if_pos h1, if_pos (by omega)]
    · rw [List.getElem?_append_right (by rw [List.length_replicate]; omega), List.getElem?_append_right (by rw [List.length_replicate]; omega), List.length_replicate, List.length_replicate, List.getElem?_replicate, List.getElem?_replicate]
      by_cases h2 : i < n
      · rw [if_pos (by omega), if_pos (by omega)]
      · rw [if_neg (by omega), if_neg (by omega)]
theorem CInv.step {s : St} {n k at_ : Nat} {b : List Int} (h : CInv s n k at_ b) (hk : k < n) (ha : at_ < 500) (hb : b.length ≤ 500) (hB : Bytes b) :
    ∃ s1 s2, grant s 0 = (s1, (k : Int), 0) ∧ write s1 (1024 * (k : Int) + at_) b = (s2, 0) ∧ CInv s2 n (k + 1) at_ b := by
  have hl := h.len
  have fe : first s.own = k := first_eq _ _ (by rw [hl]; exact hk) (by rw [h.get k hk, if_neg (by omega)]; decide) fun j hj => by rw [h.get j (by omega), if_pos hj]; decide
  have G : grant s 0 = (granted s k 0, (k : Int), 0) := by
    unfold grant
    rw [if_neg (by decide), fe, if_pos (by rw [hl]; exact hk)]; rfl
  have ok1 : Ok (granted s k 0) := granted_ok h.ok k 0 (by rw [hl]; exact hk) (by decide)
  have hl1 : (granted s k 0).own.length = n := by simp [granted, hl]
  have e1 : ((1024 * (k : Int) + at_) / 1024).toNat = k := by omega
  have e2 : ((1024 * (k : Int) + at_) % 1024).toNat = at_ := by omega
  have W : within (granted s k 0) (1024 * (k : Int) + at_) b.length := by
    unfold within
    rw [hl1, e1]
    refine ⟨by omega, by omega, by omega, ?_, by omega⟩
    show 0 ≤ (s.own.set k 0).getD k 0
    rw [getD_set _ _ _ _ (by rw [hl]; exact hk), if_pos rfl]; decide
  refine ⟨_, _, G, if_pos W, ?_, ?_, by omega, fun i hi => ?_⟩
  · exact lay_ok ok1 (by have := in_row ok1 W; omega) hB
  · show s.own.set k 0 = _
    rw [h.own]; exact set_next n k hk
  · rw [lay_page ok1 W i (by rw [hl1]; exact hi), e1, e2]
    have gp : pg (granted s k 0).B i = if i = k then Z1024 else pg s.B i := granted_pg h.ok k i (by rw [hl]; exact hk) (by rw [hl]; exact hi)
    rw [gp]
    by_cases e : i = k
    · rw [if_pos e, if_pos e, if_pos (by omega)]
    · rw [if_neg e, if_neg e, h.pages i hi]
      by_cases e3 : i < k
      · rw [if_pos e3, if_pos (by omega)]
      · rw [if_neg e3, if_neg (by omega)]
theorem CInv.last {s : St} {n at_ : Nat} {b : List Int} (h : CInv s n n at_ b) (p : Nat) (hp : p < n) :
    ∃ s1 s2, ArenaPure.ret s p = (s1, 0) ∧ grant s1 1 = (s2, (p : Int), 0) ∧ ∀ i, i < n → readA s2 (1024 * (i : Int)) 1024 = (if i = p then Z1024 else splice Z1024 at_ b, 0) := by
  have hl := h.len
  have hpl : p < s.own.length := by rw [hl]; exact hp
  have R : ArenaPure.ret s p = (⟨s.own.set p (-1), s.B⟩, 0) := by
    unfold ArenaPure.ret
    rw [if_neg (by omega), Int.toNat_natCast, if_neg (by rw [h.get p hp, if_pos hp]; decide)]
  have ok1 : Ok (⟨s.own.set p (-1), s.B⟩ : St) := ok_set h.ok p (-1) hpl (by decide) _ rfl h.ok.bytes
  have hl1 : (s.own.set p (-1)).length = n := by rw [List.length_set]; exact hl
  have fe : first (s.own.set p (-1)) = p := first_eq _ _ (by rw [hl1]; exact hp) (by rw [getD_set _ _ _ _ hpl, if_pos rfl]; decide) fun j hj => by rw [getD_set _ _ _ _ hpl, if_neg (by omega), h.get j (by omega), if_pos (by omega)]; decide
  have G : grant ⟨s.own.set p (-1), s.B⟩ 1 = (granted ⟨s.own.set p (-1), s.B⟩ p 1, (p : Int), 0) := by
    unfold grant
    show (if _ then _ else if first (s.own.set p (-1)) < (s.own.set p (-1)).length then _ else _) = _
    rw [if_neg (by decide), fe, if_pos (by rw [hl1]; exact hp)]; rfl
  have ok2 := granted_ok ok1 p 1 (by show p < (s.own.set p (-1)).length; rw [hl1]; exact hp) (by decide)
  have hl2 : (granted ⟨s.own.set p (-1), s.B⟩ p 1).own.length = n := by simp [granted, hl]
  refine ⟨_, _, R, G, fun i hi => ?_⟩
  have e1 : ((1024 * (i : Int)) / 1024).toNat = i := by omega
  have e2 : ((1024 * (i : Int)) % 1024).toNat = 0 := by omega
  have W : within (granted ⟨s.own.set p (-1), s.B⟩ p 1) (1024 * (i : Int)) 1024 := by
    unfold within
    rw [hl2, e1]
    refine ⟨by omega, by omega, by omega, ?_, by omega⟩
    show 0 ≤ ((s.own.set p (-1)).set p 1).getD i 0
    rw [getD_set _ _ _ _ (by rw [hl1]; exact hp)]
    by_cases e : i = p
    · rw [if_pos e]; decide
    · rw [if_neg e, getD_set _ _ _ _ hpl, if_neg e, h.get i hi, if_pos hi]; decide
  unfold readA
  rw [if_pos W, got_page ok2 W, e1, e2, List.drop_zero]
  have gp : pg (granted ⟨s.own.set p (-1), s.B⟩ p 1).B i = if i = p then Z1024 else pg s.B i := granted_pg ok1 p i (by show p < (s.own.set p (-1)).length; rw [hl1]; exact hp) (by show i < (s.own.set p (-1)).length; rw [hl1]; exact hi)
  have lp := pg_length ok2 i (by rw [hl2]; exact hi)
  rw [List.take_of_length_le (by rw [lp]; decide), gp, h.pages i hi, if_pos hi]
/-- a byte of what is read -/
def seen (i p at_ k : Nat) (b : List Int) : Int := if i ≠ p ∧ at_ ≤ k ∧ k < at_ + b.length then b.getD (k - at_) 0 else 0
theorem seen_eq (i p at_ k : Nat) (b : List Int) (h : at_ + b.length ≤ 1024) (hk : k < 1024) : (if i = p then Z1024 else splice Z1024 at_ b).getD k 0 = seen i p at_ k b := by
  unfold seen
  by_cases e : i = p
  · rw [if_pos e, if_neg (by omega), Z1024_getD]
  · rw [if_neg e, List.getD_eq_getElem?_getD, splice_get _ _ _ (by rw [Z1024_length]; exact h)]
    by_cases h2 : at_ ≤ k ∧ k < at_ + b.length
    · rw [if_pos h2, if_pos ⟨e, h2⟩, List.getD_eq_getElem?_getD]
    · rw [if_neg h2, if_neg (fun h => h2 h.2), ← List.getD_eq_getElem?_getD, Z1024_getD]
theorem clean_early (A0 : Option Addr) (c0 : Nat) (l0 : List Int) (pages at_ page : Int) (w : World) (h : 500 < l0.length ∨ l0.length = 0) (hm : l0.length ≤ 9223372036854775807) :
    Calls Try.prog 4 #[(.int .i64 pages), (.int .i64 at_), .slice A0 l0.length c0, (.int .i64 page)] w fun e w' => e = .returned (.bool true) ∧ Below w.heap.size w w' := by
  rcases h with h | h
  · go_enter Try.func4, Try.ntmps4
    go_wp2_with fail
    refine (works_calls w).mono ?_
    rintro e wa ⟨rfl, hb⟩
    have HB := Lib.hid hb
    clear hb
    go_wp2
    go_ret
    exact ⟨rfl, HB.out⟩
  · rw [h]
    clear hm h
    go_enter Try.func4, Try.ntmps4
    go_wp2_with fail
    refine (works_calls w).mono ?_
    rintro e wa ⟨rfl, hb⟩
    have HB := Lib.hid hb
    clear hb
    go_wp2
    go_ret
    exact ⟨rfl, HB.out⟩
set_option maxHeartbeats 2000000 in
set_option maxRecDepth 100000 in
theorem clean_walk (pages at_ : Int) (A0 : Option Addr) (c0 : Nat) (l0 : List Int) (page : Int) (w : World) (w1 : (Lit.int .i64 pages).wf = true) (w2 : (Lit.int .i64 at_).wf = true) (h0 : RowOf w .u8 A0 c0 l0 1) (w3 : (Lit.int .i64 page).wf = true) :
    Calls Try.prog 4 #[(.int .i64 pages), (.int .i64 at_), .slice A0 l0.length c0, (.int .i64 page)] w fun e w' => e = .returned (.bool true) ∧ Below w.heap.size w w' := by
  by_cases hh : 500 < l0.length ∨ l0.length = 0
  · exact clean_early A0 c0 l0 pages at_ page w hh (Nat.le_trans h0.cap h0.most)
  have n1 : ¬ 500 < l0.length := fun h => hh (.inl h)
  have n2 : ¬ l0.length = 0 := fun h => hh (.inr h)
  have n3 : 0 < l0.length := by omega
  have n4 : ((l0.length : Int) == 0) = false := by rw [beq_eq_false_iff_ne]; omega
  have HS := Lib.hid h0.sl
  have HN : Hid (A0 = none → c0 = 0) := fun e => (h0.nil e).2
  have HB : Hid (Bytes l0) := fun x hx => bounds_u8 (h0.wf x hx)
  clear w1 w2 w3 h0 hh
  obtain ⟨p0, hp, p1, p2⟩ := small pages 6 (by decide)
  replace p1 : (IntKind.u64.wrap pages).tmod 6 = p0 := p1
  replace p2 : IntKind.u64.wrap pages % 6 = p0 := p2
  obtain ⟨n, en⟩ : ∃ n, p0 + 2 = n := ⟨_, rfl⟩
  have q1 : (2 : Int) + p0 = n := by omega
  have q2 : 2 ≤ n := by omega
  have q3 : n ≤ 7 := by omega
  obtain ⟨A, ha, a1, a2⟩ := small at_ 500 (by decide)
  replace a1 : (IntKind.u64.wrap at_).tmod 500 = A := a1
  replace a2 : IntKind.u64.wrap at_ % 500 = A := a2
  obtain ⟨p, hpn, b1, b2⟩ := small page n (by omega)
  have r3 : IntKind.u64.wrap (n : Int) = n := by rw [u64_wrap]; omega
  have r4 : ((n : Int) == 0) = false := by rw [beq_eq_false_iff_ne]; omega
  have r5 : (n : Int) ≠ 0 := by omega
  have r6 : ¬ (n = 0) := by omega
  clear en hp
  have T0 := Lib.hid (CInv.start n A l0 (by omega) (by omega))
  go_enter Try.func4, Try.ntmps4
  go_wp2_with fail
  refine (works_calls w).mono ?_
  rintro e wa ⟨rfl, hb⟩
  have CA : Hid (Chg (fun b => w.heap.size ≤ b) w wa) := (Chg.of_below hb)
  have BA : w.heap.size ≤ wa.heap.size := hb.size
  clear hb
  go_wp2_with fail
  refine (Here.new wa n (by omega) (by omega)).mono ?_
  rintro e wb ⟨a, rfl, h⟩
  rw [Int.toNat_natCast] at h
  have H0 := Lib.hid h
  clear h
  go_wp2_with fail
  go_quiet (fail)
  have H1 := Lib.hid (H0.out.fresh (Chg.drewN _ wb nq))
  generalize wb.drewN nq = wd at H1 ⊢
  go_wp2
  go_loopg [11] n (fun g i wr => ∃ (k : Nat) (s : St), i = .int .i64 k ∧ g = n - k ∧ Hid (Here wa.heap.size wa wr a s) ∧ Hid (CInv s n k A l0) ∧ k ≤ n)
  case atStart => exact ⟨0, _, rfl, rfl, H1.out, T0.out, by omega⟩
  case round =>
    obtain ⟨k, s, rfl, hg, H2, T1, hk⟩ := hrel
    have hg2 := Lib.hid hg
    clear hg
    by_cases hkn : k < n
    · obtain ⟨s1, s2, G1, W1, T2⟩ := T1.out.step hkn ha (by omega) HB.out
      have W1 := Lib.hid W1
      have T2 := Lib.hid T2
      have dK0 := H2.out.grant 0
      rw [G1] at dK0
      have dK1 := Lib.hid dK0
      clear dK0
      go_wp2_with fail
      refine dK1.out.mono ?_
      rintro e wc ⟨rfl, hnew⟩
      have H3 := Lib.hid hnew
      clear hnew dK1
      clear G1
      have S3 : Hid (Sl wc .u8 A0 l0) := HS.out.later (CA.out.trans (H3.out.chg.mono fun i _ h => by omega)) (Nat.le_refl _)
      have bnd : (0 : Int) ≤ 1024 * (k : Int) + A ∧ 1024 * (k : Int) + A ≤ 10000 := by omega
      obtain ⟨bn0, bn1⟩ := bnd
      go_wp2_with (at_builtin; refine wpList_app rfl _ _ 22 rfl wc.heap.size 5 .u8 1 Try.underlying22 infoByte _ [] rfl (Own.lit wc 5 .u8 [] (Nat.zero_le _)) A0 _ c0 l0 rfl rfl (S3.out.later (Chg.alloc _ wc _) (Nat.le_refl _)) HN.out ?h63 ?hby ?hba ?_; (case h63 => unfold maxLen; simp; omega); (case hby => simp; omega); (case hba => simp); intro A' c' n' w3 hn' hown hchg; obtain rfl : n' = l0.length := (by simpa using hn'); have O3 : Hid (Own w3 wc.heap.size 5 .u8 (.slice A' l0.length c') l0) := hown; have H4 := Lib.hid (H3.out.fresh (((Chg.alloc _ wc _).trans hchg).mono fun i h1 h2 => by omega)); clear hn' hown hchg)
      have dK0 := H4.out.write (1024 * (k : Int) + A) A' c' l0 O3.out.sl HB.out (by omega) (by omega)
      rw [W1.out] at dK0
      have dK1 := Lib.hid dK0
      clear dK0
      go_wp2_with fail
      refine dK1.out.mono ?_
      rintro e we ⟨rfl, hnew⟩
      have H5 := Lib.hid hnew
      clear hnew dK1
      go_wp2
      go_roundg (n - (k + 1))
      case measure => have := hg2.out; omega
      case rel => exact ⟨k + 1, s2, by go_num, rfl, H5.out, T2.out, by omega⟩
    · obtain rfl : k = n := by omega
      obtain ⟨s1, s2, R1, G1, RD⟩ := T1.out.last p hpn
      have RD := Lib.hid RD
      have G1 := Lib.hid G1
      have dK0 := H2.out.ret p
      rw [R1] at dK0
      have dK1 := Lib.hid dK0
      clear dK0
      go_wp2_with fail
      refine dK1.out.mono ?_
      rintro e wc ⟨rfl, hnew⟩
      have H3 := Lib.hid hnew
      clear hnew dK1
      clear R1
      have dK0 := H3.out.grant 1
      rw [G1.out] at dK0
      have dK1 := Lib.hid dK0
      clear dK0
      go_wp2_with fail
      refine dK1.out.mono ?_
      rintro e wd2 ⟨rfl, hnew⟩
      have H4 := Lib.hid hnew
      clear hnew dK1
      go_wp2
      go_loopg [14] k (fun g i wr => ∃ (j : Nat), i = .int .i64 j ∧ g = k - j ∧ Hid (Here wa.heap.size wa wr a s2) ∧ j ≤ k)
      case atStart => exact ⟨0, rfl, rfl, H4.out, by omega⟩
      case round =>
        obtain ⟨j, rfl, hg, H5, hj⟩ := hrel
        have hg3 := Lib.hid hg
        clear hg
        by_cases hjk : j < k
        · have RDj := Lib.hid (RD.out j hjk)
          have XL : Hid ((if j = p then Z1024 else splice Z1024 A l0).length = 1024) := by
            show _ = _
            split
            · exact Z1024_length
            · rw [length_splice _ _ _ (by rw [Z1024_length]; omega)]; exact Z1024_length
          have XS : Hid (∀ i, i < 1024 → (if j = p then Z1024 else splice Z1024 A l0).getD i 0 = seen j p A i l0) := fun i hi => seen_eq j p A i l0 (by omega) hi
          generalize (if j = p then Z1024 else splice Z1024 A l0) = X at RDj XL XS
          have dK0 := H5.out.read (1024 * (j : Int)) 1024 (by omega)
          rw [RDj.out] at dK0
          have dK1 := Lib.hid dK0
          clear dK0
          go_wp2_with fail
          refine dK1.out.mono ?_
          rintro e wf ⟨A6, c6, rfl, o6, hnew⟩
          have H6 := Lib.hid hnew
          clear hnew dK1
          have O6 := Lib.hid o6.sl
          clear o6
          obtain ⟨ad6, rfl, _⟩ := O6.out 0 (by rw [XL.out]; decide)
          have S6 : Hid (Sl wf .u8 A0 l0) := HS.out.later (CA.out.trans (H6.out.chg.mono fun i _ h => by omega)) (Nat.le_refl _)
          obtain ⟨ad0, rfl, _⟩ := S6.out 0 n3
          rw [XL.out]
          go_wp2
          go_loopg [17] 1024 (fun g i wx => ∃ (m : Nat), i = .int .i64 m ∧ g = 1024 - m ∧ m ≤ 1024 ∧ wf = wx)
          case atStart => exact ⟨0, rfl, rfl, by omega, rfl⟩
          case round =>
            obtain ⟨m, rfl, hg, hm, rfl⟩ := hrel
            have hg4 := Lib.hid hg
            clear hg
            by_cases hmk : m < 1024
            · obtain ⟨ad', e', cx⟩ := O6.out m (by rw [XL.out]; exact hmk)
              cases e'
              rw [XS.out m hmk] at cx
              have hmk2 : (m : Int) < 1024 := by omega
              by_cases hs : j ≠ p ∧ A ≤ m ∧ m < A + l0.length
              · obtain ⟨h1, h2, h3⟩ := hs
                have se : seen j p A m l0 = l0.getD (m - A) 0 := if_pos ⟨h1, h2, h3⟩
                rw [se] at cx
                obtain ⟨ad', e', cb⟩ := S6.out (m - A) (by omega)
                cases e'
                generalize l0.getD (m - A) 0 = x at cx cb
                have t1 : ((j : Int) != p) = true := by simp; omega
                have t2 : (A : Int) ≤ m := by omega
                have t3 : (m : Int) < A + l0.length := by omega
                have t4 : ((m : Int) - A).toNat = m - A := by omega
                have t5 : (0 : Int) ≤ (m : Int) - A := by omega
                have t6 : (m : Int) - A < l0.length := by omega
                clear se h1 h2 h3
                go_wp2
                go_roundg (1024 - (m + 1))
                case measure => have := hg4.out; omega
                case rel => exact ⟨m + 1, by go_num, rfl, by omega, rfl⟩
              · have se : seen j p A m l0 = 0 := if_neg hs
                rw [se] at cx
                clear se
                by_cases h1 : j = p
                · have t1 : ((j : Int) != p) = false := by simp; omega
                  clear hs
                  subst h1
                  go_wp2
                  go_roundg (1024 - (m + 1))
                  case measure => have := hg4.out; omega
                  case rel => exact ⟨m + 1, by go_num, rfl, by omega, rfl⟩
                · have t1 : ((j : Int) != p) = true := by simp; omega
                  by_cases h2 : A ≤ m
                  · have h3 : ¬ m < A + l0.length := fun h => hs ⟨h1, h2, h⟩
                    have t2 : (A : Int) ≤ m := by omega
                    have t3 : (A : Int) + l0.length ≤ m := by omega
                    clear hs h1
                    go_wp2
                    go_roundg (1024 - (m + 1))
                    case measure => have := hg4.out; omega
                    case rel => exact ⟨m + 1, by go_num, rfl, by omega, rfl⟩
                  · have t2 : (m : Int) < A := by omega
                    clear hs h1
                    go_wp2
                    go_roundg (1024 - (m + 1))
                    case measure => have := hg4.out; omega
                    case rel => exact ⟨m + 1, by go_num, rfl, by omega, rfl⟩
            · obtain rfl : m = 1024 := by omega
              go_wp2
              go_roundg (k - (j + 1))
              case measure => have := hg3.out; omega
              case rel => exact ⟨j + 1, by go_num, rfl, H6.out, by omega⟩
        · obtain rfl : j = k := by omega
          have F : Hid (Below w.heap.size w wr) := (CA.out.trans (H5.out.chg.mono fun i _ h => by omega)).below (Nat.le_refl _) fun _ h => h
          go_wp2
          go_ret
          exact ⟨rfl, F.out⟩
end Go.Proofs.Ytalcoodfoifmcaa.Arena
