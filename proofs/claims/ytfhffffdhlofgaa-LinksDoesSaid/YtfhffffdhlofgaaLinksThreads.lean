/- The walk of the law LinksThreads: it returns true at any acts. -/
import Derived.Test.YtfhffffdhlofgaaLinksOrder
namespace Go.Proofs.Ytfhffffdhlofgaa.Links
open Go Go.RowKit Go.Proofs.Ytfhffffdhlofgaa.Mem Go.Proofs.Ytfhffffdhlofgaa.CodecPure Go.Proofs.Ytfhffffdhlofgaa.ArenaPure Go.Proofs.Ytfhffffdhlofgaa.Codec Go.Proofs.Ytfhffffdhlofgaa.Arena Go.Proofs.Ytfhffffdhlofgaa.Item
set_option linter.unusedVariables false
set_option maxRecDepth 100000
variable {B : Nat} {w0 w w' : World} {a : Ar} {h : Qh} {s : St} {L : List Int}
theorem place_off {s : St} (ho : s.own = [1, 1, 1, -1]) {x : Int} (hx : x % 64 = 0) (hw : ¬ within s x 40) (d : Int) (hd : 0 ≤ d ∧ d ≤ 32) : place s (x + d) = (0, 1) := by
  unfold place
  rw [if_neg]
  intro h
  refine hw ((within_chunk ho hx).2 ?_)
  unfold within at h
  rw [ho] at h
  obtain ⟨h1, h2, h3, h4, h5⟩ := h
  have e : (x + d) / 1024 = x / 1024 := by omega
  rw [e] at h4
  simp at h3
  refine ⟨by omega, ?_⟩
  by_cases q : x / 1024 = 3
  · rw [q] at h4; simp at h4
  · omega
theorem get_off {s : St} (ho : s.own = [1, 1, 1, -1]) {x : Int} (hx : x % 64 = 0) (hw : ¬ within s x 40) {f : Int} (hf : f = 1 ∨ f = 2) : itemGet s x f = (0, 1) := by
  unfold itemGet
  rw [if_neg (by omega)]
  by_cases hr : x < 0 ∨ 1024 * (s.own.length : Int) < x
  · rw [if_pos hr]
  · rw [if_neg hr, if_pos (by omega)]
    rcases hf with rfl | rfl
    · exact place_off ho hx hw 4 (by decide)
    · exact place_off ho hx hw 8 (by decide)
theorem QA.clean_get (k : QA B w0 w a h s L) {x : Int} (hx : x % 64 = 0) (hm : x ∉ L) : (itemGet s x 1).1 ≤ 0 ∧ (itemGet s x 2).1 ≤ 0 := by
  by_cases hw : within s x 40
  · rw [itemGet1 hw, itemGet2 hw]
    exact k.clean x hx hw hm
  · rw [get_off k.own hx hw (.inl rfl), get_off k.own hx hw (.inr rfl)]
    exact ⟨by decide, by decide⟩
theorem QA.hasE (k : QA B w0 w a h s L) (x : Int) {b : Bool} (hb : decide (x ∈ L) = b) : Calls Try.prog 23 #[(.pointer (some ⟨h.q, 0, none⟩)), (.int .i64 x)] w fun e w' => e = .returned (.bool b) ∧ w = w' := by
  have := has_calls k.q x
  rw [hb] at this
  exact this
theorem QA.getE (k : QA B w0 w a h s L) {x f y e0 : Int} (hi : I64 x) (hy : itemGet s x f = (y, e0)) : Calls Try.prog 22 #[(.pointer (some ⟨a.g, 0, none⟩)), (.int .i64 x), (.int .i64 f)] w fun e w' => e = .returned (.tuple #[.int .i64 y, .int .i64 e0]) ∧ QA B w0 w' a h s L ∧ Chg (fun _ => False) w w' :=
  (get_calls k.q.lies x f hi).mono fun e w1 ⟨h1, h2⟩ => by
    rw [hy] at h1
    exact ⟨h1, k.fresh h2, h2⟩
theorem fields_at (k : QA B w0 w a h s L) {i m : Nat} (hm : L.length = m) (hi : i < m) :
    itemGet s (L.getD i 0) 1 = (if 0 < i then L.getD (i - 1) 0 else -1, 0) ∧ itemGet s (L.getD i 0) 2 = (if i + 1 < m then L.getD (i + 1) 0 else -1, 0) ∧ I64 (L.getD i 0) ∧ decide (L.getD i 0 ∈ L) = true := by
  have hi' : i < L.length := by omega
  have hmem := mem_at hi'
  have e : L = L.take i ++ L.getD i 0 :: L.drop (i + 1) := by
    have := (List.take_append_drop i L).symm
    rw [List.drop_eq_getElem_cons hi'] at this
    rw [List.getD_eq_getElem?_getD, List.getElem?_eq_getElem hi']
    exact this
  have fl := (by have := k.q.li; rw [e] at this; exact this : LI s (L.take i ++ L.getD i 0 :: L.drop (i + 1))).fields
  have hw := k.q.li.hdr _ hmem
  rw [itemGet1 hw, itemGet2 hw, fl.1, fl.2]
  refine ⟨?_, ?_, pl_i64 (k.q.li.pl hmem).1, decide_eq_true hmem⟩
  · congr 1
    rw [List.getLastD_eq_getLast?, List.getLast?_eq_getElem?, List.length_take, List.getElem?_take, List.getD_eq_getElem?_getD]
    by_cases h0 : 0 < i
    · rw [if_pos h0, if_pos (by omega), show min i L.length - 1 = i - 1 from by omega, List.getElem?_eq_getElem (by omega)]; rfl
    · rw [if_neg h0, if_neg (by omega)]; rfl
  · congr 1
    rw [List.headD_eq_head?_getD, List.head?_drop, List.getD_eq_getElem?_getD]
    by_cases h0 : i + 1 < m
    · rw [if_pos h0, List.getElem?_eq_getElem (by omega)]; rfl
    · rw [if_neg h0, List.getElem?_eq_none (by omega)]; rfl
theorem remL_not {L : List Int} (hn : L.Nodup) (x : Int) : x ∉ (remL L x).1 := by
  unfold remL
  split
  · exact fun h => (hn.mem_erase_iff.1 h).1 rfl
  · assumption
set_option maxHeartbeats 400000 in
theorem threads_walk (A : Option Addr) (c : Nat) (l : List (List Int)) (w : World) (hl : SRow w [.i64, .i64, .i64] A c l) :
    Calls Try.prog 5 #[.slice A l.length c] w fun e w' => e = .returned (.bool true) ∧ Below w.heap.size w w' := by
  have hlm : l.length ≤ 9223372036854775807 := Nat.le_trans hl.cap hl.most
  replace hl := Lib.hid hl
  obtain ⟨n, hn⟩ : ∃ n, l.length = n := ⟨_, rfl⟩
  rw [hn] at hlm ⊢
  replace hn := Lib.hid hn
  go_enter Try.func5, Try.ntmps5
  go_wp2_with fail
  refine (works_calls w).mono ?_
  rintro e wa ⟨rfl, hc⟩
  have CA := Lib.hid hc
  clear hc
  go_wp2_with fail
  refine (made_calls 2 wa 2 (by decide) small2.1 small2.2).mono ?_
  rintro e w1 ⟨a, r, rfl, T⟩
  replace T := Lib.hid T
  go_wp2_with fail
  refine (QA.start T.out).mono ?_
  rintro e w2 ⟨h, rfl, H0, -, -, -⟩
  replace H0 := Lib.hid H0
  clear T
  go_wp2_with fail
  go_loopg [7] 60 (fun g i wr => ∃ (k : Nat) (s : St) (L : List Int), i = .int .i64 k ∧ g = 60 - k ∧ k ≤ 60 ∧ k ≤ n ∧ L.length ≤ k ∧ Hid (QA wa.heap.size wa wr a h s L))
  case atStart => exact ⟨0, _, [], rfl, rfl, by omega, by omega, by simp, H0.out⟩
  case round =>
    obtain ⟨k, s, L, rfl, hg, hk, hkn, hL, H1⟩ := hrel
    obtain ⟨wo, rfl⟩ : ∃ wo : World, wo = wr := ⟨_, rfl⟩
    replace hg := Lib.hid hg
    replace hL := Lib.hid hL
    by_cases hlt : k < n ∧ k < 60
    · obtain ⟨h1, h2⟩ := hlt
      have h1' : (k : Int) < n := by omega
      have h2' : (k : Int) < 60 := by omega
      have CC : Chg (fun b => w.heap.size ≤ b) w wo := (CA.out.mono fun _ _ h => h.elim).trans (H1.out.here.chg.mono fun b _ hb => Nat.le_trans CA.out.size hb)
      have SR := hl.out.chg CC (Nat.le_refl _)
      obtain ⟨ad, rfl, d0, d1⟩ := SR.fields k (by rw [hn.out]; exact h1) (by decide)
      have f0 := d0 .i64 rfl
      have f1 := d1 0 .i64 rfl
      simp only [List.length_cons, List.length_nil, Nat.reduceAdd, Nat.zero_add] at f0 f1
      clear d0 d1 SR CC
      generalize (l.getD k []).getD 0 0 = kind at f0
      generalize (l.getD k []).getD 1 0 = x at f1
      obtain ⟨p, hp, p1, p2⟩ := small x 40 (by decide)
      replace p1 : (IntKind.u64.wrap x).tmod 40 = p := p1
      clear p2
      have ck := Lib.hid (chunk_ok hp)
      clear H0 CA hl
      have x64 : (64 * (p : Int)) % 64 = 0 := by omega
      replace x64 := Lib.hid x64
      by_cases e0 : kind = 0
      · have t0 : (kind == 0) = true := by rw [e0]; rfl
        clear e0
        have P := Lib.hid (H1.out.pushE (x := 64 * (p : Int)) (L' := (pushL L (64 * (p : Int))).1) (err := (pushL L (64 * (p : Int))).2) rfl ck.out.1 ck.out.2)
        have z := pushL_len L (64 * (p : Int))
        generalize (pushL L (64 * (p : Int))).1 = L' at P z
        replace z := Lib.hid z
        generalize (pushL L (64 * (p : Int))).2 = err at P
        go_wp2_with fail
        refine P.out.mono ?_
        rintro e w5 ⟨rfl, s', hnew, -⟩
        replace hnew := Lib.hid hnew
        clear P
        go_wp2_with fail
        go_roundg (60 - (k + 1))
        case measure => have := hg.out; omega
        case rel => exact ⟨k + 1, s', L', rfl, rfl, by omega, by omega, by have := hL.out; have := z.out; omega, hnew.out⟩
      · have t0 : (kind == 0) = false := by rw [beq_eq_false_iff_ne]; exact e0
        clear e0
        by_cases e1 : kind = 1
        · have t1 : (kind == 1) = true := by rw [e1]; rfl
          clear e1
          have P := Lib.hid (H1.out.removeE (x := 64 * (p : Int)) (L' := (remL L (64 * (p : Int))).1) (err := (remL L (64 * (p : Int))).2) rfl)
          have z := remL_len L (64 * (p : Int))
          have NI := Lib.hid (remL_not H1.out.nodup (64 * (p : Int)))
          generalize (remL L (64 * (p : Int))).1 = L' at P z NI
          replace z := Lib.hid z
          generalize (remL L (64 * (p : Int))).2 = err at P
          go_wp2_with fail
          refine P.out.mono ?_
          rintro e w5 ⟨rfl, s', hnew, -⟩
          obtain ⟨f1', e1', hy1⟩ : ∃ f e, itemGet s' (64 * (p : Int)) 1 = (f, e) := ⟨_, _, rfl⟩
          obtain ⟨f2', e2', hy2⟩ : ∃ f e, itemGet s' (64 * (p : Int)) 2 = (f, e) := ⟨_, _, rfl⟩
          have CG := hnew.clean_get x64.out NI.out
          rw [hy1, hy2] at CG
          obtain ⟨g1, g2⟩ := CG
          replace g1 : f1' ≤ 0 := g1
          replace g2 : f2' ≤ 0 := g2
          have G2 := Lib.hid (hnew.getE ck.out.2 hy2)
          have G1 := Lib.hid (fun W (hq : QA wa.heap.size wa W a h s' L') => hq.getE ck.out.2 hy1)
          have HH := Lib.hid (fun W (hq : QA wa.heap.size wa W a h s' L') => hq.hasE (64 * (p : Int)) (decide_eq_false NI.out))
          clear P hy1 hy2 hnew
          go_wp2_with fail
          refine G2.out.mono ?_
          rintro e w6 ⟨rfl, hnew, -⟩
          replace hnew := Lib.hid hnew
          clear G2
          go_wp2_with fail
          refine (G1.out w6 hnew.out).mono ?_
          rintro e w7 ⟨rfl, hnew7, -⟩
          replace hnew7 := Lib.hid hnew7
          clear G1
          go_wp2_with fail
          refine (HH.out w7 hnew7.out).mono ?_
          rintro e w8 ⟨rfl, rfl⟩
          clear HH
          go_wp2_with fail
          all_goals
            go_roundg (60 - (k + 1))
            case measure => have := hg.out; omega
            case rel => exact ⟨k + 1, s', L', rfl, rfl, by omega, by omega, by have := hL.out; have := z.out; omega, hnew7.out⟩
        · have t1 : (kind == 1) = false := by rw [beq_eq_false_iff_ne]; exact e1
          clear e1
          go_wp2_with fail
          go_roundg (60 - (k + 1))
          case measure => have := hg.out; omega
          case rel => exact ⟨k + 1, s, L, rfl, rfl, by omega, by omega, by have := hL.out; omega, H1.out⟩
    · have hend : ((n : Int) ≤ k) ∨ ((k : Int) < n ∧ ¬ (k : Int) < 60) := by omega
      clear hg H0 hlt
      obtain ⟨m, hm⟩ : ∃ m, L.length = m := ⟨_, rfl⟩
      have hm60 : m ≤ 60 := by have := hL.out; omega
      clear hL hk hkn
      have LC := Lib.hid (H1.out.listE hm (by omega))
      replace hm := Lib.hid hm
      have CB : Hid (∀ W, Chg (fun b => wa.heap.size ≤ b) wa W → Below w.heap.size w W) := fun W hc => ((CA.out.mono fun _ _ h => h.elim).trans (hc.mono fun b _ hb => Nat.le_trans CA.out.size hb)).below (Nat.le_refl _) fun _ h => h
      rcases hend with he | ⟨he, he2⟩ <;>
      (go_wp2_with fail
       refine LC.out.mono ?_
       rintro e w5 ⟨A2, c2, rfl, O5, H2, -⟩
       have H2' := Lib.hid H2
       have S5 := Lib.hid O5.sl
       clear H2 O5 LC
       go_wp2_with fail
       refine (H2'.out.lenE hm.out).mono ?_
       rintro e w6 ⟨rfl, rfl⟩
       go_wp2_with fail
       go_loopg [14] m (fun g i wr => ∃ j : Nat, i = .int .i64 j ∧ g = m - j ∧ j ≤ m ∧ Hid (QA wa.heap.size wa wr a h s L) ∧ Hid (Sl wr .i64 A2 L))
       case atStart => exact ⟨0, rfl, rfl, by omega, H2'.out, S5.out⟩
       case round =>
         obtain ⟨j, rfl, hg, hj, H3, HS⟩ := hrel
         obtain ⟨wo2, rfl⟩ : ∃ wo : World, wo = wr := ⟨_, rfl⟩
         replace hg := Lib.hid hg
         by_cases h3 : j < m
         · have h3' : (j : Int) < m := by omega
           obtain ⟨g1, g2, g3, g4⟩ := fields_at H3.out hm.out h3
           obtain ⟨ad2, rfl, c0⟩ := HS.out j (by rw [hm.out]; exact h3)
           obtain ⟨r2, hr⟩ : ∃ r : Nat, j + 1 = r := ⟨_, rfl⟩
           have hr' : (j : Int) + 1 = r2 := by omega
           by_cases q1 : 0 < j
           · have q1' : (0 : Int) < j := by omega
             obtain ⟨q, hq⟩ : ∃ q : Nat, j - 1 = q := ⟨_, rfl⟩
             have hq' : (j : Int) - 1 = q := by omega
             obtain ⟨ad3, e3, cp⟩ := HS.out q (by rw [hm.out]; omega)
             cases e3
             rw [if_pos q1, hq] at g1
             generalize L.getD q 0 = pv at cp g1
             by_cases q2 : r2 < m
             · have q2' : (r2 : Int) < m := by omega
               obtain ⟨ad3, e3, cn⟩ := HS.out r2 (by rw [hm.out]; omega)
               cases e3
               rw [hr, if_pos q2] at g2
               generalize L.getD r2 0 = nx at cn g2
               (have G1 := Lib.hid (H3.out.getE (f := 1) g3 g1)
                have G2 := Lib.hid (fun W (hq : QA wa.heap.size wa W a h s L) => hq.getE (f := 2) g3 g2)
                have HH := Lib.hid (fun W (hq : QA wa.heap.size wa W a h s L) => hq.hasE (L.getD j 0) g4)
                have g3' := Lib.hid g3
                clear g1 g2 g3 g4
                generalize L.getD j 0 = y at c0 G1 G2 HH g3'
                go_wp2_with fail
                refine G1.out.mono ?_
                rintro e w7 ⟨rfl, h7, hc7⟩
                have H7 := Lib.hid h7
                have HS7 := Lib.hid (HS.out.chg hc7 fun _ _ => id)
                have c7 := hc7.cell c0 id
                clear h7 hc7 G1 c0
                go_wp2_with fail
                refine (G2.out w7 H7.out).mono ?_
                rintro e w8 ⟨rfl, h8, hc8⟩
                have H8 := Lib.hid h8
                have HS8 := Lib.hid (HS7.out.chg hc8 fun _ _ => id)
                have c8 := hc8.cell c7 id
                clear h8 hc8 G2 c7
                go_wp2_with fail
                refine (HH.out w8 H8.out).mono ?_
                rintro e w9 ⟨rfl, rfl⟩
                clear HH
                go_wp2_with fail
                go_roundg (m - (j + 1))
                case measure => have := hg.out; omega
                case rel => exact ⟨j + 1, by go_num, rfl, by omega, H8.out, HS8.out⟩)
             · have q2' : ¬ (r2 : Int) < m := by omega
               rw [hr, if_neg q2] at g2
               (have G1 := Lib.hid (H3.out.getE (f := 1) g3 g1)
                have G2 := Lib.hid (fun W (hq : QA wa.heap.size wa W a h s L) => hq.getE (f := 2) g3 g2)
                have HH := Lib.hid (fun W (hq : QA wa.heap.size wa W a h s L) => hq.hasE (L.getD j 0) g4)
                have g3' := Lib.hid g3
                clear g1 g2 g3 g4
                generalize L.getD j 0 = y at c0 G1 G2 HH g3'
                go_wp2_with fail
                refine G1.out.mono ?_
                rintro e w7 ⟨rfl, h7, hc7⟩
                have H7 := Lib.hid h7
                have HS7 := Lib.hid (HS.out.chg hc7 fun _ _ => id)
                have c7 := hc7.cell c0 id
                clear h7 hc7 G1 c0
                go_wp2_with fail
                refine (G2.out w7 H7.out).mono ?_
                rintro e w8 ⟨rfl, h8, hc8⟩
                have H8 := Lib.hid h8
                have HS8 := Lib.hid (HS7.out.chg hc8 fun _ _ => id)
                have c8 := hc8.cell c7 id
                clear h8 hc8 G2 c7
                go_wp2_with fail
                refine (HH.out w8 H8.out).mono ?_
                rintro e w9 ⟨rfl, rfl⟩
                clear HH
                go_wp2_with fail
                go_roundg (m - (j + 1))
                case measure => have := hg.out; omega
                case rel => exact ⟨j + 1, by go_num, rfl, by omega, H8.out, HS8.out⟩)
           · have q1' : ¬ (0 : Int) < j := by omega
             rw [if_neg q1] at g1
             by_cases q2 : r2 < m
             · have q2' : (r2 : Int) < m := by omega
               obtain ⟨ad3, e3, cn⟩ := HS.out r2 (by rw [hm.out]; omega)
               cases e3
               rw [hr, if_pos q2] at g2
               generalize L.getD r2 0 = nx at cn g2
               (have G1 := Lib.hid (H3.out.getE (f := 1) g3 g1)
                have G2 := Lib.hid (fun W (hq : QA wa.heap.size wa W a h s L) => hq.getE (f := 2) g3 g2)
                have HH := Lib.hid (fun W (hq : QA wa.heap.size wa W a h s L) => hq.hasE (L.getD j 0) g4)
                have g3' := Lib.hid g3
                clear g1 g2 g3 g4
                generalize L.getD j 0 = y at c0 G1 G2 HH g3'
                go_wp2_with fail
                refine G1.out.mono ?_
                rintro e w7 ⟨rfl, h7, hc7⟩
                have H7 := Lib.hid h7
                have HS7 := Lib.hid (HS.out.chg hc7 fun _ _ => id)
                have c7 := hc7.cell c0 id
                clear h7 hc7 G1 c0
                go_wp2_with fail
                refine (G2.out w7 H7.out).mono ?_
                rintro e w8 ⟨rfl, h8, hc8⟩
                have H8 := Lib.hid h8
                have HS8 := Lib.hid (HS7.out.chg hc8 fun _ _ => id)
                have c8 := hc8.cell c7 id
                clear h8 hc8 G2 c7
                go_wp2_with fail
                refine (HH.out w8 H8.out).mono ?_
                rintro e w9 ⟨rfl, rfl⟩
                clear HH
                go_wp2_with fail
                go_roundg (m - (j + 1))
                case measure => have := hg.out; omega
                case rel => exact ⟨j + 1, by go_num, rfl, by omega, H8.out, HS8.out⟩)
             · have q2' : ¬ (r2 : Int) < m := by omega
               rw [hr, if_neg q2] at g2
               (have G1 := Lib.hid (H3.out.getE (f := 1) g3 g1)
                have G2 := Lib.hid (fun W (hq : QA wa.heap.size wa W a h s L) => hq.getE (f := 2) g3 g2)
                have HH := Lib.hid (fun W (hq : QA wa.heap.size wa W a h s L) => hq.hasE (L.getD j 0) g4)
                have g3' := Lib.hid g3
                clear g1 g2 g3 g4
                generalize L.getD j 0 = y at c0 G1 G2 HH g3'
                go_wp2_with fail
                refine G1.out.mono ?_
                rintro e w7 ⟨rfl, h7, hc7⟩
                have H7 := Lib.hid h7
                have HS7 := Lib.hid (HS.out.chg hc7 fun _ _ => id)
                have c7 := hc7.cell c0 id
                clear h7 hc7 G1 c0
                go_wp2_with fail
                refine (G2.out w7 H7.out).mono ?_
                rintro e w8 ⟨rfl, h8, hc8⟩
                have H8 := Lib.hid h8
                have HS8 := Lib.hid (HS7.out.chg hc8 fun _ _ => id)
                have c8 := hc8.cell c7 id
                clear h8 hc8 G2 c7
                go_wp2_with fail
                refine (HH.out w8 H8.out).mono ?_
                rintro e w9 ⟨rfl, rfl⟩
                clear HH
                go_wp2_with fail
                go_roundg (m - (j + 1))
                case measure => have := hg.out; omega
                case rel => exact ⟨j + 1, by go_num, rfl, by omega, H8.out, HS8.out⟩)
         · have h3' : ¬ (j : Int) < m := by omega
           have F := Lib.hid (CB.out wo2 H3.out.here.chg)
           go_wp2_with fail
           go_ret
           exact ⟨rfl, F.out⟩)
end Go.Proofs.Ytfhffffdhlofgaa.Links
