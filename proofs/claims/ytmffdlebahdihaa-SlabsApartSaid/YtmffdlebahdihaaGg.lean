import Derived.Test.YtmffdlebahdihaaGf
import Derived.OrdersHeld
import Derived.Deep.RegionHeld3
import Derived.StillTail
/- The walk of the reference's Write (chapter 08) at an item of one chunk, with a value of one byte. -/
namespace Go.Proofs.Ytmffdlebahdihaa.Item
open Go Go.RowKit Go.Proofs.Ytmffdlebahdihaa.Mem Go.Proofs.Ytmffdlebahdihaa.CodecPure Go.Proofs.Ytmffdlebahdihaa.ArenaPure Go.Proofs.Ytmffdlebahdihaa.Codec Go.Proofs.Ytmffdlebahdihaa.Arena Go.Proofs.Ytmffdlebahdihaa.NeedPure Go.Proofs.Ytmffdlebahdihaa.Need
set_option linter.unusedVariables false
set_option maxRecDepth 100000
variable {w w' : World} {r : Ra} {s t u : St}
def T2 : List Int := [64, 1024]
def V1 : ByteArray := ⟨#[118]⟩
theorem T2_range : ∀ x ∈ T2, -9223372036854775808 ≤ x ∧ x ≤ 9223372036854775807 := fun x hx => by
  simp only [T2, List.mem_cons, List.not_mem_nil, or_false] at hx
  omega
theorem need_t2 {kl : Int} (h : 1 ≤ kl ∧ kl ≤ 23) : needC T2 kl 1 = (0, 0, 0) := by
  have e : forC T2 (40 + kl + 1) = (((0 : Nat) : Int), 0) := forC_some _ _ (by omega) 0 (by decide) (fun j hj => by omega) (by show (64 : Int) ≥ _; omega)
  unfold needC
  rw [if_neg (by omega), if_neg (by decide), e]; rfl
/-- a field set by the reference -/
theorem rset_calls (hl : RLies w r u) {x f v off : Int} {X : List Int} (hw : within u x 64) (h0 : 0 ≤ f) (h1 : f ≤ 11) (h4 : f ≠ 4) (hv : Fits f v) (e1 : fat f = off) (e2 : fb f v = X) (hv2 : -9223372036854775808 ≤ v ∧ v ≤ 9223372036854775807) :
    Calls Try.prog 97 #[(.pointer (some ⟨r.g, 0, none⟩)), (.int .i64 x), (.int .i64 f), (.int .i64 v)] w (RNow w r (lay u (x + off) X) 0) := by
  have hh : within u x 40 := by
    have := within_part hw 0 40 (by decide) (by decide) (by decide) (by decide)
    rwa [Int.add_zero] at this
  have := refset_calls hl x f v (by have := hl.ok.high; obtain ⟨_, a, b, _⟩ := hh; omega) hv2
  rw [itemSet_lay hl.ok hh h0 h1 h4 hv, e1, e2] at this
  exact this
/-- one part, of one byte -/
def RPEnd (w : World) (e : Ending) (w' : World) : Prop := ∃ g, e = .returned (.slice (some ⟨g, 0, none⟩) 1 1) ∧ w'.cell? ⟨g, 0, none⟩ = some (.int .i64 1) ∧ w.heap.size ≤ g ∧ g < w'.heap.size ∧ Chg (fun _ => False) w w'

theorem rparts_calls (A : Option Addr) (c : Nat) (w : World) (hT : Sl w .i64 A T2) (kl : Int) (hk : 1 ≤ kl ∧ kl ≤ 23) : Calls Try.prog 99 #[.slice A 2 c, (.int .i64 kl), (.int .i64 1)] w (RPEnd w) := by
  have N := refneed_calls A c T2 kl 1 w hT (by decide) T2_range
  rw [need_t2 hk] at N
  replace N := Lib.hid N
  replace hT := Lib.hid hT
  obtain ⟨k1, k2⟩ := hk
  go_enter Try.func99, Try.ntmps99
  go_wp2_with fail
  refine N.out.mono ?_
  rintro e w1 ⟨rfl, hd⟩
  have C1 := Lib.hid (hd.chg (fun _ => False))
  clear hd N
  obtain ⟨ad, rfl, e0⟩ := (hT.out.chg C1.out fun _ _ => id) 0 (by decide)
  rw [add_zero] at e0
  replace e0 : w1.cell? ad = some ((.int .i64 64)) := e0
  go_wp2_with fail
  have C2 : Hid (Chg (fun _ => False) w (w1.alloc (.cells #[.int .i64 1] 3))) := C1.out.trans (Chg.alloc _ _ _)
  have XB := heap_alloc_at w1 (.cells #[.int .i64 1] 3)
  have g1 : (w1.alloc (.cells #[.int .i64 1] 3)).cell? ⟨w1.heap.size, 0, none⟩ = some (.int .i64 1) := by rw [blk_cell XB]; rfl
  replace g1 := Lib.hid g1
  have lt := C1.out.size
  clear XB C1 e0
  generalize w1.alloc (.cells #[.int .i64 1] 3) = w2 at C2 g1 ⊢
  go_loopg [11, 13] 1 (fun g l i wr => l = .slice (some ⟨w1.heap.size, 0, none⟩) 1 1 ∧ i = .int .i64 0 ∧ Hid (wr = w2))
  case atStart => exact ⟨rfl, rfl, rfl⟩
  case round =>
    obtain ⟨rfl, rfl, hw⟩ := hrel
    obtain rfl := hw.out
    have F : Hid (RPEnd w (.returned (.slice (some ⟨w1.heap.size, 0, none⟩) 1 1)) wr) := ⟨w1.heap.size, rfl, g1.out, lt, World.block_lt_of_cell? wr _ g1.out, C2.out⟩
    go_wp2_with fail
    go_ret
    exact F.out

theorem lays_take {s : St} {l : List (Int × List Int)} (h : ArenaPure.Good s l) (k : Nat) : Ok (lays s (l.take k)) ∧ (lays s (l.take k)).own = s.own := by
  have h' := h
  rw [← List.take_append_drop k l] at h'
  exact ⟨h'.left.lays, lays_own _ _⟩
theorem take3 (s : St) (x : Int) (key val : List Int) (k : Nat) (h : k < 3) : lays s ((opsR x key val).take (k + 1)) = lay (lays s ((opsR x key val).take k)) (x + 4 * (k : Int)) (pb4 (-1)) := by
  match k, h with
  | 0, _ => rfl
  | 1, _ => rfl
  | 2, _ => rfl
theorem take8 (s : St) (x : Int) (key val : List Int) (k : Nat) (h : k < 3) : lays s ((opsR x key val).take (k + 9)) = lay (lays s ((opsR x key val).take (k + 8))) (x + (35 + (k : Int))) (leb 0 1) := by
  match k, h with
  | 0, _ => rfl
  | 1, _ => rfl
  | 2, _ => rfl
/-- the item lies in its chunk -/
def RWEnd (w : World) (r : Ra) (s : St) (x : Int) (K : ByteArray) (e : Ending) (w' : World) : Prop :=
  e = .returned (.int .i64 0) ∧ RLies w' r (lays s (opsR x (bs K) (bs V1))) ∧ Chg r.has w w'
set_option maxHeartbeats 2000000 in
theorem refwrite_one (hl : RLies w r s) (AT AP : Option Addr) (cT cP : Nat) (hT : Sl w .i64 AT T2) (x : Int) (hP : Sl w .i64 AP [x]) (K : ByteArray) (hK : 1 ≤ K.size ∧ K.size ≤ 23) (hw : within s x 64)
    (hTo : ∀ ad, AT = some ad → ¬ r.has ad.block) (hPo : ∀ ad, AP = some ad → ¬ r.has ad.block) :
    Calls Try.prog 72 #[(.pointer (some ⟨r.g, 0, none⟩)), .slice AT 2 cT, .slice AP 1 cP, itemV K V1 0 0 0] w (RWEnd w r s x K) := by
  have hk2 : (1 : Int) ≤ K.size ∧ (K.size : Int) ≤ 23 := by omega
  have G : ArenaPure.Good s (opsR x (bs K) (bs V1)) := (opsP_good hl.ok hw (by rw [bs_length]; omega) (by decide) (by rw [bs_length]; show 40 + (K.size : Int) + 1 ≤ 64; omega) (bs_bytes K) (bs_bytes V1)).perm (ops_perm _ _ _)
  have hx : 0 ≤ x ∧ x ≤ 40000 := by
    have := hl.ok.high
    obtain ⟨_, a, b, _⟩ := hw
    omega
  obtain ⟨x0, x1⟩ := hx
  have XB := heap_alloc_at w (.cells #[.string K, .string V1, .int .u32 0, .int .u32 0, .int .u64 0] 118)
  have C0 : Chg (fun _ => False) w (w.alloc (.cells #[.string K, .string V1, .int .u32 0, .int .u32 0, .int .u64 0] 118)) := Chg.alloc _ _ _
  have xr : ¬ r.has w.heap.size := fun h => by
    rcases h with h | h
    · have := hl.o_lt; omega
    · have := hl.b_lt; omega
  have KEEP : Hid (∀ W, Chg r.has (w.alloc (.cells #[.string K, .string V1, .int .u32 0, .int .u32 0, .int .u64 0] 118)) W → Sl W .i64 AT T2 ∧ Sl W .i64 AP [x] ∧ W.cell? ⟨w.heap.size, 0, none⟩ = some (.string K) ∧ W.cell? ⟨w.heap.size, 1, none⟩ = some (.string V1) ∧ W.cell? ⟨w.heap.size, 2, none⟩ = some (.int .u32 0) ∧ W.cell? ⟨w.heap.size, 3, none⟩ = some (.int .u32 0) ∧ W.cell? ⟨w.heap.size, 4, none⟩ = some (.int .u64 0)) := fun W hc => by
    have hb := hc.keep XB xr
    exact ⟨(hT.chg C0 fun _ _ => id).chg hc hTo, (hP.chg C0 fun _ _ => id).chg hc hPo, by rw [blk_cell hb]; rfl, by rw [blk_cell hb]; rfl, by rw [blk_cell hb]; rfl, by rw [blk_cell hb]; rfl, by rw [blk_cell hb]; rfl⟩
  have N := refneed_calls AT cT T2 K.size 1 _ (hT.chg C0 fun _ _ => id) (by decide) T2_range
  rw [need_t2 hk2] at N
  replace N := Lib.hid N
  have L0 := Lib.hid (hl.chg C0 id id id)
  have W0 : Hid (Chg r.has w (w.alloc (.cells #[.string K, .string V1, .int .u32 0, .int .u32 0, .int .u64 0] 118))) := C0.mono fun _ _ h => h.elim
  have kk := hK.2
  replace G := Lib.hid G
  replace hw := Lib.hid hw
  clear hl hT hP hTo hPo C0 XB hK
  unfold itemV
  go_enter Try.func72, Try.ntmps72
  go_wp2_with fail
  generalize hg : w.alloc (.cells #[.string K, .string V1, .int .u32 0, .int .u32 0, .int .u64 0] 118) = w1 at L0 KEEP N W0 ⊢
  clear hg
  refine N.out.mono ?_
  rintro e w2 ⟨rfl, hd⟩
  have L2 := Lib.hid (L0.out.chg (hd.chg (fun _ => False)) id id id)
  have C2 : Hid (Chg r.has w1 w2) := hd.chg _
  clear hd N L0
  have RD : Hid (∀ W, RLies W r s → Calls Try.prog 96 #[(.pointer (some ⟨r.g, 0, none⟩)), (.int .i64 x), (.int .i64 64)] W fun e w' => ∃ A n c, e = .returned (.tuple #[.slice A n c, .int .i64 0]) ∧ Chg (fun _ => False) W w') := fun W h => (refread_calls h x 64 (by omega)).mono fun e w' ⟨A, c, e1, _, h2⟩ => ⟨A, _, c, by
    unfold readA at e1
    rw [if_pos hw.out] at e1
    exact e1, h2⟩
  go_wp2_with fail
  go_loopg [12] 1 (fun g i wr => ∃ k : Nat, i = .int .i64 k ∧ g = 1 - k ∧ k ≤ 1 ∧ Hid (Chg (fun _ => False) w2 wr))
  case atStart => exact ⟨0, rfl, rfl, by omega, Chg.refl _ _⟩
  case round =>
    obtain ⟨k, rfl, hg, hk, CK⟩ := hrel
    obtain ⟨wo, rfl⟩ : ∃ wo : World, wo = wr := ⟨_, rfl⟩
    replace hg := Lib.hid hg
    obtain ⟨kT, kP, y0, y1, y2, y3, y4⟩ := KEEP.out wo (C2.out.trans (CK.out.mono fun _ _ h => h.elim))
    obtain ⟨at', rfl, e1⟩ := kT 0 (by decide)
    obtain ⟨ad, rfl, e0⟩ := kP 0 (by simp)
    rw [add_zero] at e0 e1
    replace e1 : wo.cell? at' = some ((.int .i64 64)) := e1
    replace e0 : wo.cell? ad = some ((.int .i64 x)) := e0
    clear kT kP
    by_cases h1 : k = 0
    · subst h1
      have R1 := Lib.hid (RD.out wo (L2.out.chg CK.out id id id))
      go_wp2_with fail
      refine R1.out.mono ?_
      rintro e w3 ⟨A3, n3, c3, rfl, hc3⟩
      have C3 := Lib.hid (CK.out.trans hc3)
      clear hc3 R1
      go_wp2_with fail
      go_roundg 0
      case measure => have := hg.out; omega
      case rel => exact ⟨1, rfl, rfl, by omega, C3.out⟩
    · obtain rfl : k = 1 := by omega
      have L3 := Lib.hid (L2.out.chg CK.out id id id)
      have C3 : Hid (Chg r.has w1 wo) := C2.out.trans (CK.out.mono fun _ _ h => h.elim)
      clear hg hk h1 CK L2 C2 RD
      have GK : Hid (∀ k, Ok (lays s ((opsR x (bs K) (bs V1)).take k)) ∧ within (lays s ((opsR x (bs K) (bs V1)).take k)) x 64) := fun k => ⟨(lays_take G.out k).1, (within_own (lays_take G.out k).2 _ _).2 hw.out⟩
      obtain ⟨U, hU⟩ : ∃ U : Nat → St, U = fun k => lays s ((opsR x (bs K) (bs V1)).take k) := ⟨_, rfl⟩
      have U0 : Hid (U 0 = s) := by rw [hU]; rfl
      have U3 : Hid (∀ k, k < 3 → U (k + 1) = lay (U k) (x + 4 * (k : Int)) (pb4 (-1))) := fun k hk => by rw [hU]; exact take3 _ _ _ _ k hk
      have U8 : Hid (∀ k, k < 3 → U (k + 9) = lay (U (k + 8)) (x + (35 + (k : Int))) (leb 0 1)) := fun k hk => by rw [hU]; exact take8 _ _ _ _ k hk
      have U4 : Hid (U 4 = lay (U 3) (x + 16) (leb 0 8) ∧ U 5 = lay (U 4) (x + 24) (leb 0 4) ∧ U 6 = lay (U 5) (x + 28) (leb 0 4) ∧ U 7 = lay (U 6) (x + 32) (leb (bs V1).length 2) ∧ U 8 = lay (U 7) (x + 34) (leb (bs K).length 1) ∧ U 12 = lay (U 11) (x + 40) (bs K) ∧ U 13 = lay (U 12) (x + 12) (pb4 (-1)) ∧ U 14 = lay (U 13) (x + 40 + (bs K).length) (bs V1)) := by rw [hU]; exact ⟨rfl, rfl, rfl, rfl, rfl, rfl, rfl, rfl⟩
      have UE : Hid (U 14 = lays s (opsR x (bs K) (bs V1))) := by rw [hU]; rfl
      have GU : Hid (∀ k, Ok (U k) ∧ within (U k) x 64) := fun k => by rw [hU]; exact GK.out k
      clear hU GK
      have W3 : Hid (Chg r.has w wo) := W0.out.trans C3.out
      go_wp2_with fail
      go_loopg [17] 3 (fun g i wr => ∃ k : Nat, i = .int .i64 k ∧ g = 3 - k ∧ k ≤ 3 ∧ Hid (RLies wr r (U k)) ∧ Hid (Chg r.has wo wr))
      case atStart => exact ⟨0, rfl, rfl, by omega, by rw [U0.out]; exact L3.out, Chg.refl _ _⟩
      case round =>
        clear y0 y1 y2 y3 y4 e0 e1 L3
        obtain ⟨k, rfl, hg, hk, LU, CU⟩ := hrel
        obtain ⟨wp, rfl⟩ : ∃ wo : World, wo = wr := ⟨_, rfl⟩
        replace hg := Lib.hid hg
        by_cases h1 : k < 3
        · have h1' : (k : Int) < 3 := by omega
          have S1 := rset_calls LU.out (x := x) (f := (k : Int)) (v := -1) (off := 4 * (k : Int)) (X := pb4 (-1)) (GU.out k).2 (by omega) (by omega) (by omega) (by unfold Fits; rw [if_pos (by omega)]; exact ⟨by decide, by decide⟩) (by unfold fat; rw [if_pos (by omega)]) (by unfold fb; rw [if_pos (by omega)]) (by decide)
          rw [← U3.out k h1] at S1
          replace S1 := Lib.hid S1
          go_wp2_with fail
          refine S1.out.mono ?_
          rintro e w5 ⟨rfl, l5, c5⟩
          have L5 := Lib.hid l5
          have C5 := Lib.hid (CU.out.trans c5)
          clear l5 c5 S1
          go_wp2_with fail
          go_roundg (3 - (k + 1))
          case measure => have := hg.out; omega
          case rel => exact ⟨k + 1, rfl, rfl, by omega, L5.out, C5.out⟩
        · obtain rfl : k = 3 := by omega
          have C6 : Hid (Chg r.has w1 wp) := C3.out.trans CU.out
          have W6 : Hid (Chg r.has w wp) := W3.out.trans CU.out
          clear hg hk h1 CU C3 W3 U3
          obtain ⟨-, -, -, -, -, -, y4⟩ := KEEP.out wp C6.out
          have hwu := (GU.out 3).2
          have S1 := refsetnumber_calls LU.out (x + 16) 8 0 (by omega) (by decide) (by decide)
          rw [setNumber_lay (GU.out 3).1 (within_part hwu 16 8 (by decide) (by decide) (by decide) (by decide)) (.inr (.inr (.inr rfl))) ⟨by decide, by decide⟩] at S1
          replace S1 : Calls Try.prog 98 #[(.pointer (some ⟨r.g, 0, none⟩)), (.int .i64 (x + 16)), (.int .i64 8), (.int .u64 0)] wp (RNow wp r (lay (U 3) (x + 16) (leb 0 8)) 0) := S1
          rw [← U4.out.1] at S1
          replace S1 := Lib.hid S1
          clear hwu LU
          go_wp2_with fail
          refine S1.out.mono ?_
          rintro e w7 ⟨rfl, l7, c7⟩
          have L7 := Lib.hid l7
          have C7 := Lib.hid (C6.out.trans c7)
          have W7 := Lib.hid (W6.out.trans c7)
          clear l7 c7 S1 C6 W6 y4
          obtain ⟨-, -, -, -, -, y3, -⟩ := KEEP.out w7 C7.out
          have S1 := rset_calls L7.out (x := x) (f := 5) (v := 0) (off := 24) (X := leb 0 4) (GU.out 4).2 (by decide) (by decide) (by decide) (by show (0:Int) ≤ 0 ∧ (0:Int) < 2 ^ 32; decide) rfl rfl (by decide)
          rw [← U4.out.2.1] at S1
          replace S1 := Lib.hid S1
          go_wp2_with fail
          refine S1.out.mono ?_
          rintro e w8 ⟨rfl, l8, c8⟩
          have L8 := Lib.hid l8
          have C8 := Lib.hid (C7.out.trans c8)
          have W8 := Lib.hid (W7.out.trans c8)
          clear l8 c8 S1 C7 W7 y3
          obtain ⟨-, -, -, -, y2, -, -⟩ := KEEP.out w8 C8.out
          have S1 := rset_calls L8.out (x := x) (f := 6) (v := 0) (off := 28) (X := leb 0 4) (GU.out 5).2 (by decide) (by decide) (by decide) (by show (0:Int) ≤ 0 ∧ (0:Int) < 2 ^ 32; decide) rfl rfl (by omega)
          rw [← U4.out.2.2.1] at S1
          replace S1 := Lib.hid S1
          go_wp2_with fail
          refine S1.out.mono ?_
          rintro e w9 ⟨rfl, l9, c9⟩
          have L9 := Lib.hid l9
          have C9 := Lib.hid (C8.out.trans c9)
          have W9 := Lib.hid (W8.out.trans c9)
          clear l9 c9 S1 C8 W8 y2
          obtain ⟨-, -, -, y1, -, -, -⟩ := KEEP.out w9 C9.out
          have S1 := rset_calls L9.out (x := x) (f := 7) (v := ((bs V1).length : Int)) (off := 32) (X := leb ((bs V1).length : Int) 2) (GU.out 6).2 (by decide) (by decide) (by decide) (by show (0:Int) ≤ 1 ∧ (1:Int) < 2 ^ 16; decide) rfl rfl (by decide)
          rw [← U4.out.2.2.2.1] at S1
          replace S1 := Lib.hid S1
          go_wp2_with fail
          refine S1.out.mono ?_
          rintro e w10 ⟨rfl, l10, c10⟩
          have L10 := Lib.hid l10
          have C10 := Lib.hid (C9.out.trans c10)
          have W10 := Lib.hid (W9.out.trans c10)
          clear l10 c10 S1 C9 W9 y1
          obtain ⟨-, -, y0, -, -, -, -⟩ := KEEP.out w10 C10.out
          have S1 := rset_calls L10.out (x := x) (f := 8) (v := (K.size : Int)) (off := 34) (X := leb (K.size : Int) 1) (GU.out 7).2 (by decide) (by decide) (by decide) (by show (0:Int) ≤ K.size ∧ (K.size:Int) < 2 ^ 8; omega) rfl rfl (by omega)
          rw [← bs_length K, ← U4.out.2.2.2.2.1, bs_length] at S1
          replace S1 := Lib.hid S1
          go_wp2_with fail
          refine S1.out.mono ?_
          rintro e w11 ⟨rfl, l11, c11⟩
          have L11 := Lib.hid l11
          have C11 := Lib.hid (C10.out.trans c11)
          have W11 := Lib.hid (W10.out.trans c11)
          clear l11 c11 S1 C10 W10 y0
          go_wp2_with fail
          go_loopg [18] 3 (fun g i wr => ∃ k : Nat, i = .int .i64 ((9 : Int) + k) ∧ g = 3 - k ∧ k ≤ 3 ∧ Hid (RLies wr r (U (k + 8))) ∧ Hid (Chg r.has w11 wr))
          case atStart => exact ⟨0, rfl, rfl, by omega, L11.out, Chg.refl _ _⟩
          case round =>
            clear L11
            obtain ⟨k, rfl, hg, hk, LU, CU⟩ := hrel
            obtain ⟨wq, rfl⟩ : ∃ wo : World, wo = wr := ⟨_, rfl⟩
            replace hg := Lib.hid hg
            by_cases h1 : k < 3
            · have h1' : (9 : Int) + k < 12 := by omega
              have S1 := rset_calls LU.out (x := x) (f := 9 + (k : Int)) (v := 0) (off := 35 + (k : Int)) (X := leb 0 1) (GU.out (k + 8)).2 (by omega) (by omega) (by omega) (by unfold Fits; rw [if_neg (by omega)]; exact ⟨by decide, Int.pow_pos (by decide)⟩) (by unfold fat; rw [if_neg (by omega), if_neg (by omega), if_neg (by omega), if_neg (by omega)]; omega) (by unfold fb fw; rw [if_neg (by omega), if_neg (by omega), if_neg (by omega), if_neg (by omega), if_neg (by omega)]; rfl) (by decide)
              rw [← U8.out k h1] at S1
              replace S1 := Lib.hid S1
              go_wp2_with fail
              refine S1.out.mono ?_
              rintro e w12 ⟨rfl, l5, c5⟩
              have L5 := Lib.hid l5
              have C5 := Lib.hid (CU.out.trans c5)
              clear l5 c5 S1
              go_wp2_with fail
              go_roundg (3 - (k + 1))
              case measure => have := hg.out; omega
              case rel => exact ⟨k + 1, by go_num, rfl, by omega, L5.out, C5.out⟩
            · obtain rfl : k = 3 := by omega
              have C12 : Hid (Chg r.has w1 wq) := C11.out.trans CU.out
              have W12 : Hid (Chg r.has w wq) := W11.out.trans CU.out
              have h1' : ¬ ((9 : Int) + ((3 : Nat) : Int) < 12) := by omega
              replace LU : Hid (RLies wq r (U 11)) := LU.out
              clear hg hk h1 CU C11 W11 U8
              obtain ⟨-, -, y0, -, -, -, -⟩ := KEEP.out wq C12.out
              have KC := fun W => Lib.run_convert_string_bytes (P := Try.prog) W 9 48 5 K Try.underlying9 Try.underlying48 Try.underlying5
              have Cb := chg_bytes wq 5 K
              have nr : ¬ r.has wq.heap.size := fun h => by
                rcases h with h | h
                · have := LU.out.o_lt; omega
                · have := LU.out.b_lt; omega
              have WC := refwrite_calls (LU.out.chg Cb id id id) (x + 40) (some ⟨wq.heap.size, 0, none⟩) (grownCap wq K.size 0 5) (bs K) (sl_bytes wq 5 K) (bs_bytes K) (fun _ ad e => by injection e with e; subst e; exact nr) (by rw [bs_length]; omega) (by omega)
              have ww : within (U 11) (x + 40) (bs K).length := within_part (GU.out 11).2 40 _ (by decide) (by omega) (by rw [bs_length]; omega) (by rw [bs_length]; omega)
              have we : ArenaPure.write (U 11) (x + 40) (bs K) = (lay (U 11) (x + 40) (bs K), 0) := by unfold ArenaPure.write; rw [if_pos ww]
              rw [we, bs_length] at WC
              replace WC : Calls Try.prog 92 #[(.pointer (some ⟨r.g, 0, none⟩)), (.int .i64 (x + 40)), .slice (some ⟨wq.heap.size, 0, none⟩) K.size (grownCap wq K.size 0 5)] (Lib.bytesWorld wq 5 K) (RNow (Lib.bytesWorld wq 5 K) r (lay (U 11) (x + 40) (bs K)) 0) := WC
              rw [← U4.out.2.2.2.2.2.1] at WC
              replace WC := Lib.hid WC
              replace Cb : Hid (Chg r.has wq (Lib.bytesWorld wq 5 K)) := Cb.mono fun _ _ h => h.elim
              clear LU we ww nr
              go_wp2_with fail
              refine WC.out.mono ?_
              rintro e w13 ⟨rfl, l13, c13⟩
              have L13 := Lib.hid l13
              have C13 := Lib.hid ((C12.out.trans Cb.out).trans c13)
              have W13 := Lib.hid ((W12.out.trans Cb.out).trans c13)
              clear l13 c13 WC C12 W12 Cb y0 KC
              obtain ⟨kT, -, y0, y1, -, -, -⟩ := KEEP.out w13 C13.out
              have PC := Lib.hid (rparts_calls (some at') cT w13 kT (K.size : Int) hk2)
              clear kT
              go_wp2_with fail
              refine PC.out.mono ?_
              rintro e w14 ⟨pg, rfl, pc, plt, plt2, c14⟩
              have L14 := Lib.hid (L13.out.chg c14 id id id)
              have C14 : Hid (Chg r.has w1 w14) := C13.out.trans (c14.mono fun _ _ h => h.elim)
              have W14 : Hid (Chg r.has w w14) := W13.out.trans (c14.mono fun _ _ h => h.elim)
              have pr : Hid (¬ r.has pg) := fun h => by
                rcases h with h | h
                · have := L13.out.o_lt; omega
                · have := L13.out.b_lt; omega
              clear c14 PC y0 y1 L13 C13 W13 plt plt2
              replace pc := Lib.hid pc
              go_wp2_with fail
              go_loopg [20, 21] 1 (fun g f i wr => ∃ k : Nat, f = .int .i64 k ∧ i = .int .i64 k ∧ g = 1 - k ∧ k ≤ 1 ∧ Hid (RLies wr r (U (12 + 2 * k))) ∧ Hid (Chg r.has w14 wr))
              case atStart => exact ⟨0, rfl, rfl, rfl, by omega, L14.out, Chg.refl _ _⟩
              case round =>
                clear L14
                obtain ⟨k, rfl, rfl, hg, hk, LU, CU⟩ := hrel
                obtain ⟨wp2, rfl⟩ : ∃ wo : World, wo = wr := ⟨_, rfl⟩
                replace hg := Lib.hid hg
                by_cases h1 : k = 0
                · subst h1
                  replace LU : Hid (RLies wp2 r (U 12)) := LU.out
                  have p0 := CU.out.cell pc.out pr.out
                  obtain ⟨-, -, -, y1, -, -, -⟩ := KEEP.out wp2 (C14.out.trans CU.out)
                  have SS : ∀ W : World, (Instr.slice 9 (.string V1) (some (.int .i64 0)) (some (.int .i64 1)) none).run Try.prog W = .ok (.string V1) W := fun W => by kernel_rfl
                  have KC := fun W => Lib.run_convert_string_bytes (P := Try.prog) W 9 48 5 V1 Try.underlying9 Try.underlying48 Try.underlying5
                  have cz : (((0 : Nat) : Int)) = 0 := rfl
                  rw [cz]
                  go_wp2_with fail
                  go_still_tail 9, (by kernel_rfl)
                  change wpList _ _ _ _ _ wp2.drew
                  have CD : Hid (Chg (fun _ => False) wp2 (Lib.bytesWorld wp2.drew 5 V1)) := (Chg.drew _ _).trans (chg_bytes _ _ _)
                  have SB := Lib.hid (sl_bytes wp2.drew 5 V1)
                  have nr : ¬ r.has wp2.drew.heap.size := fun h => by
                    have e : wp2.drew.heap.size = wp2.heap.size := rfl
                    rw [e] at h
                    rcases h with h | h
                    · have := LU.out.o_lt; omega
                    · have := LU.out.b_lt; omega
                  have LW := Lib.hid (LU.out.chg CD.out id id id)
                  obtain ⟨-, -, z0, -, -, -, -⟩ := KEEP.out _ (((C14.out.trans CU.out).trans (CD.out.mono fun _ _ h => h.elim)))
                  replace CD : Hid (Chg r.has wp2 (Lib.bytesWorld wp2.drew 5 V1)) := CD.out.mono fun _ _ h => h.elim
                  have zp := CD.out.cell (CU.out.cell pc.out pr.out) pr.out
                  obtain ⟨vb, hvb⟩ : ∃ vb, wp2.drew.heap.size = vb := ⟨_, rfl⟩
                  obtain ⟨vc, hvc⟩ : ∃ vc, grownCap wp2.drew V1.size 0 5 = vc := ⟨_, rfl⟩
                  rw [hvb] at SB nr
                  generalize hwd : wp2.drew = wd at CD SB LW z0 zp hvb hvc ⊢
                  replace hwd := Lib.hid hwd
                  clear y1 p0
                  go_wp2_with fail
                  rw [SS]
                  go_wp2_with fail
                  clear hvb hvc SS KC
                  generalize Lib.bytesWorld wd 5 V1 = we at CD SB LW z0 zp ⊢
                  have wi : within (U 12) (x + 12) 4 := within_part (GU.out 12).2 12 4 (by decide) (by decide) (by decide) (by decide)
                  have SP := refsetplace_calls LW.out (x + 12) (-1) (by omega) (by decide)
                  rw [setPlace_lay (GU.out 12).1 wi ⟨by decide, by decide⟩] at SP
                  replace SP : Calls Try.prog 100 #[(.pointer (some ⟨r.g, 0, none⟩)), (.int .i64 (x + 12)), (.int .i64 (-1))] we (RNow we r (lay (U 12) (x + 12) (pb4 (-1))) 0) := SP
                  rw [← U4.out.2.2.2.2.2.2.1] at SP
                  refine SP.mono ?_
                  rintro e w15 ⟨rfl, l15, c15⟩
                  have L15 := Lib.hid l15
                  have C15 : Hid (Chg r.has wp2 w15) := CD.out.trans c15
                  have S15 := SB.out.chg c15 fun ad e => by injection e with e; subst e; exact nr
                  obtain ⟨-, -, z1, -, -, -, -⟩ := KEEP.out w15 ((C14.out.trans CU.out).trans C15.out)
                  have WC := refwrite_calls l15 (x + 40 + (K.size : Int)) (some ⟨vb, 0, none⟩) vc (bs V1) S15 (bs_bytes V1) (fun _ ad e => by injection e with e; subst e; exact nr) (by decide) (by omega)
                  have ww : within (U 13) (x + 40 + (K.size : Int)) (bs V1).length := by
                    have := within_part (GU.out 13).2 (40 + (K.size : Int)) 1 (by omega) (by decide) (by omega) (by decide)
                    rw [← Int.add_assoc] at this
                    exact this
                  have wr' : ArenaPure.write (U 13) (x + 40 + (K.size : Int)) (bs V1) = (lay (U 13) (x + 40 + (K.size : Int)) (bs V1), 0) := by unfold ArenaPure.write; rw [if_pos ww]
                  rw [wr', bs_length] at WC
                  replace WC : Calls Try.prog 92 #[(.pointer (some ⟨r.g, 0, none⟩)), (.int .i64 (x + 40 + (K.size : Int))), .slice (some ⟨vb, 0, none⟩) V1.size vc] w15 (RNow w15 r (lay (U 13) (x + 40 + (K.size : Int)) (bs V1)) 0) := WC
                  have u14 := U4.out.2.2.2.2.2.2.2
                  rw [bs_length K] at u14
                  rw [← u14] at WC
                  replace WC := Lib.hid WC
                  clear SP l15 c15 S15 ww wr' u14 wi nr SB LW z0 zp CD
                  go_wp2_with fail
                  refine WC.out.mono ?_
                  rintro e w16 ⟨rfl, l16, c16⟩
                  have L16 := Lib.hid l16
                  have C16 : Hid (Chg r.has w14 w16) := (CU.out.trans C15.out).trans c16
                  clear l16 c16 WC z1
                  go_wp2_with fail
                  go_roundg 0
                  case measure => have := hg.out; omega
                  case rel => exact ⟨1, rfl, rfl, rfl, by omega, L16.out, C16.out⟩
                · obtain rfl : k = 1 := by omega
                  have F : Hid (RWEnd w r s x K (.returned (.int .i64 0)) wp2) := ⟨rfl, by rw [← UE.out]; exact LU.out, W14.out.trans CU.out⟩
                  go_wp2_with fail
                  go_ret
                  exact F.out
end Go.Proofs.Ytmffdlebahdihaa.Item

/- Chapter 08: an item of one chunk, with a value of one byte: what the program and the reference lay is the same. No program in sight. -/
namespace Go.Proofs.Ytmffdlebahdihaa.ArenaPure
open Go Go.RowKit Go.Proofs.Ytmffdlebahdihaa.Mem Go.Proofs.Ytmffdlebahdihaa.CodecPure Go.Proofs.Ytmffdlebahdihaa.Codec Go.Proofs.Ytmffdlebahdihaa.Arena Go.Proofs.Ytmffdlebahdihaa.NeedPure
set_option linter.unusedVariables false
set_option maxRecDepth 100000
theorem hdrS_ok {s : St} (hs : Ok s) {x : Int} (hw : within s x 40) {vs : List Int} (hv : ∀ k : Nat, k < 12 → Fits (k : Int) (vs.getD k 0)) : ∀ k, k ≤ 12 → Ok (hdrS s x vs k) ∧ (hdrS s x vs k).own = s.own := by
  intro k
  induction k with
  | zero => exact fun _ => ⟨hs, rfl⟩
  | succ k ih =>
    intro hk
    obtain ⟨h1, h2⟩ := ih (by omega)
    by_cases e : k = 4
    · have : hdrS s x vs (k + 1) = hdrS s x vs k := if_pos e
      rw [this]; exact ⟨h1, h2⟩
    · have : hdrS s x vs (k + 1) = (itemSet (hdrS s x vs k) x k (vs.getD k 0)).1 := if_neg e
      rw [this]
      have hwk := (within_own h2 x 40).2 hw
      rw [itemSet_lay h1 hwk (by omega) (by omega) (by omega) (hv k (by omega))]
      have hl := fb_length (f := k) (vs.getD k 0) (by omega) (by omega)
      have wf : within (hdrS s x vs k) (x + fat k) (fb k (vs.getD k 0)).length := by rw [hl]; exact hdr_f hwk (by omega) (by omega)
      have := in_row h1 wf
      exact ⟨lay_ok h1 (by omega) (fb_bytes _ _), h2⟩
theorem hdrS_step {s : St} (hs : Ok s) {x : Int} (hw : within s x 40) {vs : List Int} (hv : ∀ k : Nat, k < 12 → Fits (k : Int) (vs.getD k 0)) (k : Nat) (hk : k < 12) (h4 : k ≠ 4) : hdrS s x vs (k + 1) = lay (hdrS s x vs k) (x + fat k) (fb k (vs.getD k 0)) := by
  obtain ⟨h1, h2⟩ := hdrS_ok hs hw hv k (by omega)
  have : hdrS s x vs (k + 1) = (itemSet (hdrS s x vs k) x k (vs.getD k 0)).1 := if_neg h4
  rw [this, itemSet_lay h1 ((within_own h2 x 40).2 hw) (by omega) (by omega) (by omega) (hv k hk)]
theorem one_same {s : St} (hs : Ok s) {x : Int} {key val : List Int} (hw : within s x 64) (hk : 1 ≤ key.length ∧ key.length ≤ 23) (hv : val.length = 1) (bk : Bytes key) (bv : Bytes val) :
    partS (baseS s x key val 0 0 0) 64 [x] key val 1 = lays s (opsR x key val) := by
  have G := opsP_good hs hw (key := key) (val := val) ⟨hk.1, by omega⟩ (by omega) (by omega) bk bv
  rw [← lays_perm (ops_perm x key val) G (opsP_off x key val)]
  have h40 : within s x 40 := by
    have := within_part hw 0 40 (by decide) (by decide) (by decide) (by decide)
    rwa [Int.add_zero] at this
  have fit : ∀ k : Nat, k < 12 → Fits (k : Int) ((hvals 0 0 val.length key.length).getD k 0) := fun k hk2 => hvals_fits (by decide) (by decide) (by omega) (by omega) k hk2
  have st := fun k hk h4 => hdrS_step hs h40 fit k hk h4
  have e5 : hdrS s x (hvals 0 0 val.length key.length) 5 = hdrS s x (hvals 0 0 val.length key.length) 4 := if_pos rfl
  have H : hdrS s x (hvals 0 0 val.length key.length) 12 = lays s ((opsP x key val).take 11) := by
    rw [st 11 (by decide) (by decide), st 10 (by decide) (by decide), st 9 (by decide) (by decide), st 8 (by decide) (by decide), st 7 (by decide) (by decide), st 6 (by decide) (by decide), st 5 (by decide) (by decide), e5, st 3 (by decide) (by decide), st 2 (by decide) (by decide), st 1 (by decide) (by decide), st 0 (by decide) (by decide)]
    rfl
  have e0 : offV 64 key.length val.length 0 = 0 := rfl
  have e1 : offV 64 key.length val.length (0 + 1) = 1 := by show min (val.length : Int) (64 - 40 - key.length) = 1; omega
  have pv : partV 64 key.length val 0 = val := by
    unfold partV
    rw [e0, e1]
    show (val.drop 0).take 1 = val
    rw [List.drop_zero]
    exact List.take_of_length_le (by omega)
  have pp : partP [x] key.length 0 = x + 40 + key.length := by unfold partP; rw [if_pos rfl]; rfl
  have hb : Ok (baseS s x key val 0 0 0) ∧ (baseS s x key val 0 0 0).own = s.own ∧ baseS s x key val 0 0 0 = lays s ((opsP x key val).take 13) := by
    have e : baseS s x key val 0 0 0 = lays s ((opsP x key val).take 13) := by
      unfold baseS
      rw [H]; rfl
    rw [e]
    have G' := G
    rw [← List.take_append_drop 13 (opsP x key val)] at G'
    exact ⟨G'.left.lays, lays_own _ _, rfl⟩
  show (write (baseS s x key val 0 0 0) (partP [x] key.length 0) (partV 64 key.length val 0)).1 = _
  rw [pv, pp]
  have ww : within (baseS s x key val 0 0 0) (x + 40 + key.length) val.length := by
    have := within_part ((within_own hb.2.1 x 64).2 hw) (40 + key.length) val.length (by omega) (by omega) (by omega) (by omega)
    rw [← Int.add_assoc] at this
    exact this
  rw [write_lay _ _ _ ww, hb.2.2]
  rfl
end Go.Proofs.Ytmffdlebahdihaa.ArenaPure

/- A region that draws its order, walked by an invariant: each operation once, whatever has come up before it. No program in sight. -/
namespace Go.Proofs.Ytmffdlebahdihaa.Inv
open Go
set_option linter.unusedVariables false
section
variable {P : Program} {ops : Array Oper} {Q : Exit → Act → World → Prop} {I : Array Bool → Act → World → Prop}
/-- operation i keeps I, if what it waits for has come up -/
def Step (P : Program) (ops : Array Oper) (Q : Exit → Act → World → Prop) (I : Array Bool → Act → World → Prop) (i : Nat) (o : Oper) : Prop :=
  ∀ (L : Array Bool) (a : Act) (w : World), I L a w → L.getD i true = false → (∀ (j : Nat) (e : Edge), o.after[j]? = some e → Region.binds .any e = true → L.getD e.on false = true) →
    ∀ K : Act → World → Prop, Shut (∀ a' w', I (L.setIfInBounds i true) a' w' → K a' w') → if Region.wanted o (yielded ops a.tmps) = true then o.wp P a w K Q else K (a.put o.dst undef) w
def Steps (P : Program) (ops : Array Oper) (Q : Exit → Act → World → Prop) (I : Array Bool → Act → World → Prop) : List Oper → Nat → Prop
  | [], _ => True
  | o :: os, i => Step P ops Q I i o ∧ Steps P ops Q I os (i + 1)
theorem Steps.nil {i : Nat} : Steps P ops Q I [] i := trivial
theorem Steps.cons {i : Nat} {o : Oper} {os : List Oper} (h : Step P ops Q I i o) (hs : Steps P ops Q I os (i + 1)) : Steps P ops Q I (o :: os) i := ⟨h, hs⟩
theorem Steps.get : ∀ {l : List Oper} {n : Nat}, Steps P ops Q I l n → ∀ (j : Nat) (o : Oper), l[j]? = some o → Step P ops Q I (n + j) o
  | [], _, _, _, _, h => by simp at h
  | x :: l, n, hs, 0, o, h => by
    have e : x = o := by simpa using h
    exact e ▸ hs.1
  | x :: l, n, hs, j + 1, o, h => by
    have := Steps.get hs.2 j o (by simpa using h)
    rwa [show n + 1 + j = n + (j + 1) by omega] at this
theorem falses {L : Array Bool} {i : Nat} (h : L.getD i true = false) : ((L.setIfInBounds i true).toList.count false) + 1 = L.toList.count false := by
  rcases Nat.lt_or_ge i L.size with hi | hi
  · have hv : L[i] = false := by simpa [hi] using h
    have hl : i < L.toList.length := by simpa using hi
    have hg : L.toList[i] = false := by simpa using hv
    have hp : 0 < L.toList.count false := by
      rw [List.count_pos_iff]
      exact hg ▸ List.getElem_mem hl
    rw [Array.toList_setIfInBounds, List.count_set hl, hg, if_pos (by rfl), if_neg (by decide)]
    omega
  · simp [Array.getElem?_eq_none hi] at h
/-- every edge points back -/
def backB (ops : Array Oper) : Bool := (List.range ops.size).all fun i => match ops[i]? with
  | none => true
  | some o => o.after.all fun e => decide (e.on < i)
theorem all_listed (hb : backB ops = true) {L : Array Bool} (hz : L.size = ops.size) (hr : Region.ready .any ops L = []) : ∀ i, i < ops.size → L.getD i false = true := by
  intro i
  induction i using Nat.strongRecOn with
  | _ i ih =>
    intro hi
    cases h : L.getD i false with
    | true => rfl
    | false =>
      have h' : L.getD i true = false := getD_in (by omega) h
      have ho : ops[i]? = some ops[i] := Array.getElem?_eq_getElem hi
      have : i ∈ Region.ready .any ops L := mem_ready.2 ⟨h', ops[i], ho, fun e he _ => by
        have h1 := List.all_eq_true.1 hb i (List.mem_range.2 hi)
        simp only [ho] at h1
        have h2 := of_decide_eq_true (Array.all_eq_true_iff_forall_mem.1 h1 e he)
        exact ih e.on h2 (by omega)⟩
      rw [hr] at this
      cases this
theorem any_inv (hb : backB ops = true) (hs : Steps P ops Q I ops.toList 0) (he : ∀ L a w, I L a w → (∀ i, i < ops.size → L.getD i false = true) → Q .normal a w) :
    ∀ (fuel : Nat) (L : Array Bool) (a : Act) (w : World), L.toList.count false ≤ fuel → L.size = ops.size → I L a w → wpAny P .any ops Q fuel L a w := by
  intro fuel
  induction fuel with
  | zero =>
    intro L a w hc hz hI
    have hr : Region.ready .any ops L = [] := by
      cases h : Region.ready .any ops L with
      | nil => rfl
      | cons i r =>
        have := falses (mem_ready.1 (h ▸ List.mem_cons_self : i ∈ Region.ready .any ops L)).1
        omega
    exact ⟨hr, he L a w hI (all_listed hb hz hr)⟩
  | succ fuel ih =>
    intro L a w hc hz hI
    refine ⟨fun hr => he L a w hI (all_listed hb hz hr), fun i hi => ?_⟩
    obtain ⟨h1, o, ho, h2⟩ := mem_ready.1 hi
    have hst := hs.get i o (by simpa using ho)
    rw [Nat.zero_add] at hst
    have hf := falses h1
    exact wpOp_step ho fun K' hK => hst L a w hI h1 (fun j e hj => h2 e (Array.mem_of_getElem? hj)) K' fun a' w' hI' => hK a' w' (ih _ a' w' (by omega) (by simpa using hz) hI')
/-- the whole region -/
theorem wp_region_inv {id : Nat} {a : Act} {w : World} (hm : P.follows .mixedOrders = true) (hb : backB ops = true) (I : Array Bool → Act → World → Prop) (h0 : I (Array.replicate ops.size false) a w.drew)
    (hs : Steps P ops Q I ops.toList 0) (he : ∀ L a w, I L a w → (∀ i, i < ops.size → L.getD i false = true) → Q .normal a w) : (Code.region id ops true).wp P Q a w :=
  wp_region_any hm (any_inv hb hs he _ _ _ _ (by simp [Array.toList_replicate]) (by simp) h0)
end
/-- one place turned -/
def up {α : Type} (f : Nat → α) (i : Nat) (x : α) : Nat → α := fun j => if j = i then x else f j
theorem up_at {α : Type} (f : Nat → α) (i : Nat) (x : α) : up f i x i = x := if_pos rfl
theorem up_ne {α : Type} (f : Nat → α) {i j : Nat} (x : α) (h : j ≠ i) : up f i x j = f j := if_neg h
end Go.Proofs.Ytmffdlebahdihaa.Inv

/- The walk of chapter 10's Laid: both arenas, with an item for each of thirty keys. -/
namespace Go.Proofs.Ytmffdlebahdihaa.Item
open Go Go.RowKit Go.Proofs.Ytmffdlebahdihaa.Mem Go.Proofs.Ytmffdlebahdihaa.CodecPure Go.Proofs.Ytmffdlebahdihaa.ArenaPure Go.Proofs.Ytmffdlebahdihaa.Codec Go.Proofs.Ytmffdlebahdihaa.Arena Go.Proofs.Ytmffdlebahdihaa.NeedPure Go.Proofs.Ytmffdlebahdihaa.Need
set_option linter.unusedVariables false
set_option maxRecDepth 100000
variable {B : Nat} {w0 w w' : World} {a : Ar} {r : Ra} {s t u : St}
/-- the key of a number -/
def keyL (q : Nat) : List Int := [97 + ((q % 26 : Nat) : Int), 97 + ((q / 26 : Nat) : Int)]
def keyS (q : Nat) : ByteArray := KEY ++ strOfNums (keyL q)
theorem place10_calls (n : Int) (w : World) (q : Nat) (hq : q < 30) (q1 : (IntKind.u64.wrap n).tmod 30 = q) : Calls Try.prog 29 #[(.int .i64 n)] w fun e w' => e = .returned ((.int .i64 (64 * (q : Int)))) ∧ w' = w := by
  go_enter Try.func29, Try.ntmps29
  go_wp2_with fail
  go_ret
  exact ⟨rfl, rfl⟩
set_option maxHeartbeats 1000000 in
theorem keys_calls (n : Int) (w : World) (q : Nat) (hq : q < 30) (q1 : (IntKind.u64.wrap n).tmod 30 = q) : Calls Try.prog 69 #[(.int .i64 n)] w fun e w' => e = .returned (.string (keyS q)) ∧ Chg (fun _ => False) w w' := by
  have m1 : (q : Int).tmod 26 = ((q % 26 : Nat) : Int) := by rw [Int.tmod_eq_emod_of_nonneg (by omega)]; omega
  have m2 : (q : Int).tdiv 26 = ((q / 26 : Nat) : Int) := by rw [Int.tdiv_eq_ediv_of_nonneg (by omega)]; omega
  have b1 : q % 26 < 26 := by omega
  have b2 : q / 26 < 2 := by omega
  unfold keyS keyL
  generalize q % 26 = q3 at m1 b1 ⊢
  generalize q / 26 = q4 at m2 b2 ⊢
  have kc : (Go.convert 48 9 (.slice (some ⟨w.heap.size, 0, none⟩) 2 2)).run Try.prog (w.alloc (.cells #[.int .u8 (97 + (q3 : Int)), .int .u8 (97 + (q4 : Int))] 5)) = .ok (.string (strOfNums [97 + (q3 : Int), 97 + (q4 : Int)])) (w.alloc (.cells #[.int .u8 (97 + (q3 : Int)), .int .u8 (97 + (q4 : Int))] 5)) :=
    conv_sl (l := [97 + (q3 : Int), 97 + (q4 : Int)]) (c := 2) Try.underlying48 Try.underlying5 Try.underlying9 (sl_lit w .u8 [97 + (q3 : Int), 97 + (q4 : Int)] 5 (0, 0))
  have C : Hid (Chg (fun _ => False) w (w.alloc (.cells #[.int .u8 (97 + (q3 : Int)), .int .u8 (97 + (q4 : Int))] 5))) := Chg.alloc _ _ _
  obtain ⟨S2, hS2⟩ : ∃ S2, strOfNums [97 + (q3 : Int), 97 + (q4 : Int)] = S2 := ⟨_, rfl⟩
  rw [hS2] at kc ⊢
  have s2 : S2.size = 2 := by rw [← hS2]; rfl
  replace hS2 := Lib.hid hS2
  go_enter Try.func69, Try.ntmps69
  go_wp2_with fail
  go_ret
  exact ⟨rfl, C.out⟩
theorem to_calls (K V : ByteArray) (fl ex cas : Int) (w : World) : Calls Try.prog 71 #[itemV K V fl ex cas] w fun e w' => e = .returned (itemV K V fl ex cas) ∧ Chg (fun _ => False) w w' := by
  have C : Hid (Chg (fun _ => False) w (w.alloc (.cells #[.string K, .string V, .int .u32 fl, .int .u32 ex, .int .u64 cas] 118))) := Chg.alloc _ _ _
  have hr := heap_alloc2_new w (.cells #[.string K, .string V, .int .u32 fl, .int .u32 ex, .int .u64 cas] 118) (.cells #[.string K, .string V, .int .u32 fl, .int .u32 ex, .int .u64 cas] 120)
  have C2 : Hid (Chg (fun _ => False) w ((w.alloc (.cells #[.string K, .string V, .int .u32 fl, .int .u32 ex, .int .u64 cas] 118)).alloc (.cells #[.string K, .string V, .int .u32 fl, .int .u32 ex, .int .u64 cas] 120))) := C.out.trans (Chg.alloc _ _ _)
  replace hr := Lib.hid hr
  unfold itemV
  go_enter Try.func71, Try.ntmps71
  go_wp2_with fail
  exact bodyPost_ret (v := .agg #[.string K, .string V, .int .u32 fl, .int .u32 ex, .int .u64 cas]) (results_cell_row rfl _ _ (w.heap.size + 1) 120 #[.string K, .string V, .int .u32 fl, .int .u32 ex, .int .u64 cas] (0, 0) _ rfl hr.out Try.underlying120 rfl (by kernel_rfl)) rfl ⟨rfl, C2.out⟩
theorem keyS_bs (q : Nat) (hq : q < 30) : bs (keyS q) = [107, 101, 121, 97 + ((q % 26 : Nat) : Int), 97 + ((q / 26 : Nat) : Int)] ∧ (keyS q).size = 5 := by
  have e : (KEY ++ strOfNums (keyL q)).data.toList = KEY.data.toList ++ (strOfNums (keyL q)).data.toList := by rw [ByteArray.data_append]; simp
  have h : bs (keyS q) = bs KEY ++ bs (strOfNums (keyL q)) := by
    unfold keyS bs
    rw [e, List.map_append]
  have h2 : bs (strOfNums (keyL q)) = keyL q := bs_str fun x hx => by
    simp only [keyL, List.mem_cons, List.not_mem_nil, or_false] at hx
    omega
  rw [h2] at h
  refine ⟨h, ?_⟩
  rw [← bs_length, h]; rfl
/-- behind n items -/
def laidS : Nat → St
  | 0 => madeS 4
  | n + 1 => lays (laidS n) (opsR (64 * (n : Int)) (bs (keyS n)) (bs V1))
theorem small2' : (IntKind.u64.wrap 2).tmod 6 = ((2 : Nat) : Int) ∧ IntKind.u64.wrap 2 % 6 = ((2 : Nat) : Int) := by decide
theorem small30 (k : Nat) (h : k < 30) : (IntKind.u64.wrap (k : Int)).tmod 30 = k := by
  rw [u64_wrap, Int.emod_eq_of_lt (by omega) (by omega), Int.tmod_eq_emod_of_nonneg (by omega)]
  omega
theorem madeS_own4 : (madeS 4).own = [1, 1, 1, -1] := by decide +kernel
theorem laidS_own (n : Nat) : (laidS n).own = [1, 1, 1, -1] := by
  induction n with
  | zero => exact madeS_own4
  | succ n ih => show (lays _ _).own = _; rw [lays_own]; exact ih
theorem laid_within {s : St} (ho : s.own = [1, 1, 1, -1]) (n : Nat) (hn : n < 48) : within s (64 * (n : Int)) 64 := by
  unfold within
  rw [ho]
  have e : (64 * (n : Int) / 1024).toNat < 3 := by omega
  refine ⟨by decide, by omega, by simp; omega, ?_, by omega⟩
  generalize (64 * (n : Int) / 1024).toNat = k at e
  match k, e with
  | 0, _ => decide
  | 1, _ => decide
  | 2, _ => decide
theorem fine_laid {s : St} (hs : Ok s) (ho : s.own = [1, 1, 1, -1]) (n : Nat) (hn : n < 30) : Fine s 64 [64 * (n : Int)] (bs (keyS n)) (bs V1) 0 0 0 := by
  have hk : (bs (keyS n)).length = 5 := by rw [bs_length, (keyS_bs n hn).2]
  refine ⟨hs, by simp, by rw [hk]; decide, fun p hp => ?_, fun i j hi hj e => ?_, by simp, by rw [hk]; exact ⟨by decide, by decide, by decide⟩, ⟨bs_bytes _, bs_bytes _⟩, by decide⟩
  · simp only [List.mem_singleton] at hp
    subst hp
    exact laid_within ho n (by omega)
  · simp at hi hj; omega
/-- both arenas, laid alike -/
def LdEnd (w : World) (e : Ending) (w' : World) : Prop := ∃ a r, e = .returned (.tuple #[(.pointer (some ⟨a.g, 0, none⟩)), (.pointer (some ⟨r.g, 0, none⟩)), .bool true]) ∧ Two w.heap.size w w' a r (laidS 30) (laidS 30)
end Go.Proofs.Ytmffdlebahdihaa.Item

/- The walk of chapter 10's Laid, the round: both arenas are given one item more. -/
namespace Go.Proofs.Ytmffdlebahdihaa.Item
open Go Go.RowKit Go.Proofs.Ytmffdlebahdihaa.Mem Go.Proofs.Ytmffdlebahdihaa.CodecPure Go.Proofs.Ytmffdlebahdihaa.ArenaPure Go.Proofs.Ytmffdlebahdihaa.Codec Go.Proofs.Ytmffdlebahdihaa.Arena Go.Proofs.Ytmffdlebahdihaa.NeedPure Go.Proofs.Ytmffdlebahdihaa.Need Go.Proofs.Ytmffdlebahdihaa.Inv
set_option linter.unusedVariables false
set_option maxRecDepth 100000
def Mine (a : Ar) (r : Ra) (x : Nat) : Prop := x ∈ a.pb ∨ r.has x
def Lit (a : Ar) (r : Ra) (W : World) (v : Value) (l : List Int) : Prop := ∃ A, v = .slice A l.length l.length ∧ Sl W .i64 A l ∧ ∀ ad, A = some ad → ¬ Mine a r ad.block
theorem Lit.chg {a : Ar} {r : Ra} {W W' : World} {v : Value} {l : List Int} (h : Lit a r W v l) (hc : Chg (Mine a r) W W') : Lit a r W' v l := by
  obtain ⟨A, rfl, h1, h2⟩ := h
  exact ⟨A, rfl, h1.chg hc h2, h2⟩
def LFact (a : Ar) (r : Ra) (k : Nat) (W : World) : Nat → Value → Prop
  | 0, v => v = (.pointer (some ⟨a.g, 0, none⟩))
  | 1, v => Lit a r W v [64, 1024]
  | 2, v => v = .int .i64 (k : Int)
  | 3, v => v = .int .i64 (64 * (k : Int))
  | 4, v => Lit a r W v [64 * (k : Int)]
  | 5, v => v = itemV (keyS k) V1 0 0 0
  | 6, v => v = itemV (keyS k) V1 0 0 0
  | 7, v => v = .int .i64 0
  | 8, v => v = (.pointer (some ⟨r.g, 0, none⟩))
  | 9, v => Lit a r W v [64, 1024]
  | 10, v => v = .int .i64 (k : Int)
  | 11, v => v = .int .i64 (64 * (k : Int))
  | 12, v => Lit a r W v [64 * (k : Int)]
  | 13, v => v = itemV (keyS k) V1 0 0 0
  | 14, v => v = .int .i64 0
  | _, v => v = .bool false
theorem LFact.chg {a : Ar} {r : Ra} {k : Nat} {W W' : World} (hc : Chg (Mine a r) W W') : ∀ {i : Nat} {v : Value}, LFact a r k W i v → LFact a r k W' i v := by
  intro i v h
  match i, h with
  | 0, h => exact h
  | 1, h => exact Lit.chg h hc
  | 2, h => exact h
  | 3, h => exact h
  | 4, h => exact Lit.chg h hc
  | 5, h => exact h
  | 6, h => exact h
  | 7, h => exact h
  | 8, h => exact h
  | 9, h => exact Lit.chg h hc
  | 10, h => exact h
  | 11, h => exact h
  | 12, h => exact Lit.chg h hc
  | 13, h => exact h
  | 14, h => exact h
  | (n + 15), h => exact h
def XC (W : World) (xb : Nat) (K V : ByteArray) : Prop :=
  W.cell? ⟨xb, 0, none⟩ = some (.string K) ∧ W.cell? ⟨xb, 1, none⟩ = some (.string V) ∧ W.cell? ⟨xb, 2, none⟩ = some (.int .u32 0) ∧ W.cell? ⟨xb, 3, none⟩ = some (.int .u32 0) ∧ W.cell? ⟨xb, 4, none⟩ = some (.int .u64 0)
theorem XC.chg {W W' : World} {xb : Nat} {K V : ByteArray} {S : Nat → Prop} (h : XC W xb K V) (hc : Chg S W W') (hx : ¬ S xb) : XC W' xb K V :=
  ⟨hc.cell h.1 hx, hc.cell h.2.1 hx, hc.cell h.2.2.1 hx, hc.cell h.2.2.2.1 hx, hc.cell h.2.2.2.2 hx⟩
structure RF (w : World) (a : Ar) (r : Ra) (k xb : Nat) (b : Nat → Bool) (v : Nat → Value) (W : World) : Prop where
  two : Two w.heap.size w W a r (laidS (if b 7 = true then k + 1 else k)) (laidS (if b 14 = true then k + 1 else k))
  cells : XC W xb (keyS k) V1
  own : ¬ Mine a r xb
  fs : ∀ i, b i = true → LFact a r k W i (v i)
theorem RF.step {w : World} {a : Ar} {r : Ra} {k xb : Nat} {b : Nat → Bool} {v : Nat → Value} {W W' : World} (h : RF w a r k xb b v W) (i : Nat) (x : Value) (hc : Chg (Mine a r) W W')
    (ht : Two w.heap.size w W' a r (laidS (if up b i true 7 = true then k + 1 else k)) (laidS (if up b i true 14 = true then k + 1 else k))) (hf : LFact a r k W' i x) : RF w a r k xb (up b i true) (up v i x) W' := by
  refine ⟨ht, h.cells.chg hc h.own, h.own, fun j hj => ?_⟩
  by_cases e : j = i
  · subst e; rw [up_at]; exact hf
  · rw [up_ne _ _ e] at hj ⊢
    exact LFact.chg hc (h.fs j hj)
/-- an operation that changes no block -/
theorem RF.still {w : World} {a : Ar} {r : Ra} {k xb : Nat} {b : Nat → Bool} {v : Nat → Value} {W W' : World} (h : RF w a r k xb b v W) (i : Nat) (x : Value) (hc : Chg (fun _ => False) W W') (hi : i ≠ 7 ∧ i ≠ 14)
    (hf : LFact a r k W' i x) : RF w a r k xb (up b i true) (up v i x) W' :=
  h.step i x (hc.mono fun _ _ h => h.elim) (by rw [up_ne _ _ (Ne.symm hi.1), up_ne _ _ (Ne.symm hi.2)]; exact h.two.fresh hc) hf
theorem RF.same {w : World} {a : Ar} {r : Ra} {k xb : Nat} {b : Nat → Bool} {v : Nat → Value} {W : World} (h : RF w a r k xb b v W) (i : Nat) (x : Value) (hi : i ≠ 7 ∧ i ≠ 14)
    (hf : LFact a r k W i x) : RF w a r k xb (up b i true) (up v i x) W := h.still i x (Chg.refl _ _) hi hf
/-- a new block is none of theirs -/
theorem new_mine {w W : World} {a : Ar} {r : Ra} {B : Nat} {s t : St} (h : Two B w W a r s t) : ¬ Mine a r W.heap.size := fun hm => by
  rcases hm with hm | hm | hm
  · obtain ⟨i, hi, e⟩ := h.here.lies.of_mem hm
    have := blk_lt (h.here.lies.page i hi)
    omega
  · have := h.ref.o_lt; omega
  · have := h.ref.b_lt; omega
/-- a slice literal -/
theorem RF.lit {w : World} {a : Ar} {r : Ra} {k xb : Nat} {b : Nat → Bool} {v : Nat → Value} {W : World} (h : RF w a r k xb b v W) (l : List Int) (e : TypeId) :
    Lit a r (W.alloc (.cells (nums .i64 l).toArray e)) (.slice (some ⟨W.heap.size, 0, none⟩) l.length l.length) l := by
  refine ⟨_, rfl, sl_lit W .i64 l e (0, 0), fun ad hd hm => ?_⟩
  cases hd
  exact new_mine h.two hm
theorem xc_new (w : World) (K V : ByteArray) (e : TypeId) : XC (w.alloc (.cells #[.string K, .string V, .int .u32 0, .int .u32 0, .int .u64 0] e)) w.heap.size K V := by
  have h := heap_alloc_at w (.cells #[.string K, .string V, .int .u32 0, .int .u32 0, .int .u64 0] e)
  refine ⟨?_, ?_, ?_, ?_, ?_⟩ <;> rw [blk_cell h] <;> rfl
set_option maxHeartbeats 4000000 in
theorem laid_calls (w : World) : Calls Try.prog 34 #[] w (LdEnd w) := by
  go_enter Try.func34, Try.ntmps34
  go_wp2_with fail
  refine (made_calls 2 w 2 (by decide) small2'.1 small2'.2).mono ?_
  rintro e w1 ⟨a, r, rfl, T⟩
  have T1 : Hid (Two w.heap.size w w1 a r (laidS 0) (laidS 0)) := T
  clear T
  go_wp2_with fail
  go_loopg [6] 30 (fun g i wr => ∃ k : Nat, i = .int .i64 k ∧ g = 30 - k ∧ k ≤ 30 ∧ Hid (Two w.heap.size w wr a r (laidS k) (laidS k)))
  case atStart => exact ⟨0, rfl, rfl, by omega, T1.out⟩
  case round =>
    clear T1
    obtain ⟨k, rfl, hg, hk, T2⟩ := hrel
    obtain ⟨wo, rfl⟩ : ∃ wo : World, wo = wr := ⟨_, rfl⟩
    replace hg := Lib.hid hg
    by_cases h1 : k < 30
    · have h1' : (k : Int) < 30 := by omega
      have KC := Lib.hid (fun W => keys_calls (k : Int) W k h1 (small30 k h1))
      have PC := Lib.hid (fun W => place10_calls (k : Int) W k h1 (small30 k h1))
      go_wp2_with fail
      refine (KC.out wo).mono ?_
      rintro e w2 ⟨rfl, hc⟩
      have T3 := T2.out.fresh hc
      have X0 := xc_new w2 (keyS k) V1 118
      have T4 := Lib.hid (T3.fresh (Chg.alloc _ w2 (.cells #[.string (keyS k), .string V1, .int .u32 0, .int .u32 0, .int .u64 0] 118)))
      have O4 := Lib.hid (new_mine T3)
      obtain ⟨W4, hW4⟩ : ∃ W4, w2.alloc (.cells #[.string (keyS k), .string V1, .int .u32 0, .int .u32 0, .int .u64 0] 118) = W4 := ⟨_, rfl⟩
      rw [hW4] at X0 T4
      replace X0 := Lib.hid X0
      clear hc KC T2 T3
      replace hW4 := Lib.hid hW4
      go_wp2_with fail
      rw [show (ByteArray.mk #[118]) = V1 from rfl, hW4.out]
      obtain ⟨xb, hxb⟩ : ∃ xb, w2.heap.size = xb := ⟨_, rfl⟩
      rw [hxb] at X0 O4 ⊢
      clear hxb hW4
      refine wp_region_inv (by kernel_rfl) (by kernel_rfl) (fun L A W => ∃ (b : Nat → Bool) (v : Nat → Value), L = #[b 0, b 1, b 2, b 3, b 4, b 5, b 6, b 7, b 8, b 9, b 10, b 11, b 12, b 13, b 14, b 15] ∧
        A = ⟨#[u0, u1, u2, (.pointer (some ⟨a.g, 0, none⟩)), (.pointer (some ⟨r.g, 0, none⟩)), .bool true, .int .i64 (k : Int), .pointer (some ⟨xb, 0, none⟩), .tuple #[(.pointer (some ⟨a.g, 0, none⟩)), (.pointer (some ⟨r.g, 0, none⟩)), .bool true], .tuple #[(.pointer (some ⟨a.g, 0, none⟩)), (.pointer (some ⟨r.g, 0, none⟩)), .bool true], (.pointer (some ⟨a.g, 0, none⟩)), (.pointer (some ⟨r.g, 0, none⟩)), .bool true, .bool true, .bool false, undef, undef, .int .i64 (k : Int), .bool true, u19, u20, .int .i64 (k : Int), .string (keyS k), itemV (keyS k) V1 0 0 0,
          v 0, v 1, v 2, v 3, v 4, v 5, v 6, v 7, v 8, v 9, v 10, v 11, v 12, v 13, v 14, v 15, u40, u41, undef, undef], []⟩ ∧ RF w a r k xb b v W) ?_ ?_ ?_
      · exact ⟨fun _ => false, fun i => [u24, u25, u26, u27, u28, u29, u30, u31, u32, u33, u34, u35, u36, u37, u38, u39].getD i undef, rfl, rfl, T4.out.fresh (Chg.drew _ _), X0.out.chg (Chg.drew (fun _ => False) _) id, O4.out, fun i h => by cases h⟩
      · refine Steps.cons (fun L A W hI h1x h2 K hK => ?_) ?_
        · obtain ⟨b, v, rfl, rfl, R⟩ := hI
          have R := Lib.hid R
          go_simp
          exact hK.out _ _ ⟨up b 0 true, up v 0 _, rfl, rfl, R.out.same 0 _ (by decide) rfl⟩
        refine Steps.cons (fun L A W hI h1x h2 K hK => ?_) ?_
        · obtain ⟨b, v, rfl, rfl, R⟩ := hI
          have R := Lib.hid R
          go_simp
          exact hK.out _ _ ⟨up b 1 true, up v 1 _, rfl, rfl, R.out.still 1 _ (Chg.alloc _ _ _) (by decide) (R.out.lit [64, 1024] _)⟩
        refine Steps.cons (fun L A W hI h1x h2 K hK => ?_) ?_
        · obtain ⟨b, v, rfl, rfl, R⟩ := hI
          have R := Lib.hid R
          go_simp
          exact hK.out _ _ ⟨up b 2 true, up v 2 _, rfl, rfl, R.out.same 2 _ (by decide) rfl⟩
        refine Steps.cons (fun L A W hI h1x h2 K hK => ?_) ?_
        · obtain ⟨b, v, rfl, rfl, R⟩ := hI
          have R := Lib.hid R
          have e1 : v 2 = .int .i64 (k : Int) := R.out.fs 2 (h2 0 _ rfl rfl)
          go_simp
          refine (PC.out W).mono ?_
          rintro e W' ⟨rfl, rfl⟩
          go_simp
          exact hK.out _ _ ⟨up b 3 true, up v 3 _, rfl, by simp [up, e1], R.out.same 3 _ (by decide) rfl⟩
        refine Steps.cons (fun L A W hI h1x h2 K hK => ?_) ?_
        · obtain ⟨b, v, rfl, rfl, R⟩ := hI
          have R := Lib.hid R
          have e1 : v 3 = .int .i64 (64 * (k : Int)) := R.out.fs 3 (h2 0 _ rfl rfl)
          go_simp
          exact hK.out _ _ ⟨up b 4 true, up v 4 _, rfl, by simp [up, e1], R.out.still 4 _ (Chg.alloc _ _ _) (by decide) (R.out.lit [64 * (k : Int)] _)⟩
        refine Steps.cons (fun L A W hI h1x h2 K hK => ?_) ?_
        · obtain ⟨b, v, rfl, rfl, R⟩ := hI
          have R := Lib.hid R
          obtain ⟨c0, c1, c2, c3, c4⟩ := R.out.cells
          go_simp
          exact hK.out _ _ ⟨up b 5 true, up v 5 _, rfl, rfl, R.out.same 5 _ (by decide) rfl⟩
        refine Steps.cons (fun L A W hI h1x h2 K hK => ?_) ?_
        · obtain ⟨b, v, rfl, rfl, R⟩ := hI
          have R := Lib.hid R
          have e1 : v 5 = itemV (keyS k) V1 0 0 0 := R.out.fs 5 (h2 0 _ rfl rfl)
          go_simp
          refine (to_calls (keyS k) V1 0 0 0 W).mono ?_
          rintro e W' ⟨rfl, hc⟩
          go_simp
          exact hK.out _ _ ⟨up b 6 true, up v 6 _, rfl, by simp [up, e1], R.out.still 6 _ hc (by decide) rfl⟩
        refine Steps.cons (fun L A W hI h1x h2 K hK => ?_) ?_
        · obtain ⟨b, v, rfl, rfl, R⟩ := hI
          have R := Lib.hid R
          have e0 : v 0 = (.pointer (some ⟨a.g, 0, none⟩)) := R.out.fs 0 (h2 0 _ rfl rfl)
          obtain ⟨AT, e1, sT, oT⟩ : Lit a r W (v 1) [64, 1024] := R.out.fs 1 (h2 1 _ rfl rfl)
          obtain ⟨AP, e2, sP, oP⟩ : Lit a r W (v 4) [64 * (k : Int)] := R.out.fs 4 (h2 2 _ rfl rfl)
          have e3 : v 6 = itemV (keyS k) V1 0 0 0 := R.out.fs 6 (h2 3 _ rfl rfl)
          have f7 : b 7 = false := h1x
          have TW := R.out.two
          rw [if_neg (by rw [f7]; decide)] at TW
          have TW := Lib.hid TW
          have sv : SlV W .i64 (.slice AP 1 1) [64 * (k : Int)] := SlV.of sP rfl (by decide) (by decide) fun e => by
            obtain ⟨ad, h, _⟩ := sP 0 (by show 0 < 1; decide)
            rw [e] at h; cases h
          obtain ⟨bk, zk⟩ := keyS_bs k h1
          have CW := Lib.hid (write_ok TW.out.here.lies [64, 1024] AT 2 sT (by decide) (by decide) [64 * (k : Int)] _ sv (keyS k) V1 0 0 0 0 0 64 (by rw [zk]; rfl) (by decide) rfl rfl (fun ad hd hm => oT ad hd (.inl hm)) (fun A n c e ad hd hm => by cases e; exact oP ad hd (.inl hm))
            (fine_laid TW.out.here.lies.ok (laidS_own k) k h1) (by rw [bs_length, bs_length, zk]; rfl))
          replace sT := Lib.hid sT
          replace oT := Lib.hid oT
          replace sP := Lib.hid sP
          replace oP := Lib.hid oP
          clear sv bk zk
          go_simp
          refine CW.out.mono ?_
          rintro e W' ⟨t, rfl, hl', -, ht, hc⟩
          have ht' : t = laidS (k + 1) := ht.trans (one_same TW.out.here.lies.ok (laid_within (laidS_own k) k (by omega)) (by rw [bs_length, (keyS_bs k h1).2]; decide) (by decide) (bs_bytes _) (bs_bytes _))
          subst ht'
          have T' := Lib.hid (TW.out.opA hl' hc)
          go_simp
          exact hK.out _ _ ⟨up b 7 true, up v 7 _, rfl, by simp [up, e0, e1, e2, e3], R.out.step 7 _ (hc.mono fun _ _ h => .inl h) (by rw [if_pos (by rw [up_at]), up_ne _ _ (by decide)]; exact T'.out) rfl⟩
        refine Steps.cons (fun L A W hI h1x h2 K hK => ?_) ?_
        · obtain ⟨b, v, rfl, rfl, R⟩ := hI
          have R := Lib.hid R
          go_simp
          exact hK.out _ _ ⟨up b 8 true, up v 8 _, rfl, rfl, R.out.same 8 _ (by decide) rfl⟩
        refine Steps.cons (fun L A W hI h1x h2 K hK => ?_) ?_
        · obtain ⟨b, v, rfl, rfl, R⟩ := hI
          have R := Lib.hid R
          go_simp
          exact hK.out _ _ ⟨up b 9 true, up v 9 _, rfl, rfl, R.out.still 9 _ (Chg.alloc _ _ _) (by decide) (R.out.lit [64, 1024] _)⟩
        refine Steps.cons (fun L A W hI h1x h2 K hK => ?_) ?_
        · obtain ⟨b, v, rfl, rfl, R⟩ := hI
          have R := Lib.hid R
          go_simp
          exact hK.out _ _ ⟨up b 10 true, up v 10 _, rfl, rfl, R.out.same 10 _ (by decide) rfl⟩
        refine Steps.cons (fun L A W hI h1x h2 K hK => ?_) ?_
        · obtain ⟨b, v, rfl, rfl, R⟩ := hI
          have R := Lib.hid R
          have e1 : v 10 = .int .i64 (k : Int) := R.out.fs 10 (h2 0 _ rfl rfl)
          go_simp
          refine (PC.out W).mono ?_
          rintro e W' ⟨rfl, rfl⟩
          go_simp
          exact hK.out _ _ ⟨up b 11 true, up v 11 _, rfl, by simp [up, e1], R.out.same 11 _ (by decide) rfl⟩
        refine Steps.cons (fun L A W hI h1x h2 K hK => ?_) ?_
        · obtain ⟨b, v, rfl, rfl, R⟩ := hI
          have R := Lib.hid R
          have e1 : v 11 = .int .i64 (64 * (k : Int)) := R.out.fs 11 (h2 0 _ rfl rfl)
          go_simp
          exact hK.out _ _ ⟨up b 12 true, up v 12 _, rfl, by simp [up, e1], R.out.still 12 _ (Chg.alloc _ _ _) (by decide) (R.out.lit [64 * (k : Int)] _)⟩
        refine Steps.cons (fun L A W hI h1x h2 K hK => ?_) ?_
        · obtain ⟨b, v, rfl, rfl, R⟩ := hI
          have R := Lib.hid R
          obtain ⟨c0, c1, c2, c3, c4⟩ := R.out.cells
          go_simp
          exact hK.out _ _ ⟨up b 13 true, up v 13 _, rfl, rfl, R.out.same 13 _ (by decide) rfl⟩
        refine Steps.cons (fun L A W hI h1x h2 K hK => ?_) ?_
        · obtain ⟨b, v, rfl, rfl, R⟩ := hI
          have R := Lib.hid R
          have e0 : v 8 = (.pointer (some ⟨r.g, 0, none⟩)) := R.out.fs 8 (h2 0 _ rfl rfl)
          obtain ⟨AT, e1, sT, oT⟩ : Lit a r W (v 9) [64, 1024] := R.out.fs 9 (h2 1 _ rfl rfl)
          obtain ⟨AP, e2, sP, oP⟩ : Lit a r W (v 12) [64 * (k : Int)] := R.out.fs 12 (h2 2 _ rfl rfl)
          have e3 : v 13 = itemV (keyS k) V1 0 0 0 := R.out.fs 13 (h2 3 _ rfl rfl)
          have f14 : b 14 = false := h1x
          have TW := R.out.two
          rw [if_neg (show ¬ b 14 = true by rw [f14]; decide)] at TW
          have TW := Lib.hid TW
          obtain ⟨bk, zk⟩ := keyS_bs k h1
          have CW := Lib.hid (refwrite_one TW.out.ref AT AP 2 1 sT (64 * (k : Int)) sP (keyS k) (by rw [zk]; decide) (laid_within (laidS_own k) k (by omega)) (fun ad hd hm => oT ad hd (.inr hm)) (fun ad hd hm => oP ad hd (.inr hm)))
          replace sT := Lib.hid sT
          replace oT := Lib.hid oT
          replace sP := Lib.hid sP
          replace oP := Lib.hid oP
          clear bk zk
          go_simp
          refine CW.out.mono ?_
          rintro e W' ⟨rfl, hl', hc⟩
          have T' := Lib.hid (TW.out.opR hl' hc)
          go_simp
          exact hK.out _ _ ⟨up b 14 true, up v 14 _, rfl, by simp [up, e0, e1, e2, e3], R.out.step 14 _ (hc.mono fun _ _ h => .inr h) (by rw [up_ne b _ (show 7 ≠ 14 by decide), if_pos (show up b 14 true 14 = true by rw [up_at])]; exact T'.out) rfl⟩
        refine Steps.cons (fun L A W hI h1x h2 K hK => ?_) ?_
        · obtain ⟨b, v, rfl, rfl, R⟩ := hI
          have R := Lib.hid R
          have e0 : v 7 = .int .i64 0 := R.out.fs 7 (h2 0 _ rfl rfl)
          have e1 : v 14 = .int .i64 0 := R.out.fs 14 (h2 1 _ rfl rfl)
          go_simp
          exact hK.out _ _ ⟨up b 15 true, up v 15 _, rfl, by simp [up, e0, e1], R.out.same 15 _ (by decide) rfl⟩
        exact Steps.nil
      · rintro L A W ⟨b, v, rfl, rfl, R⟩ hall
        have b7 : b 7 = true := hall 7 (by decide)
        have b14 : b 14 = true := hall 14 (by decide)
        have e15 : v 15 = .bool false := R.fs 15 (hall 15 (by decide))
        have T5 := R.two
        rw [if_pos b7, if_pos b14] at T5
        replace T5 := Lib.hid T5
        replace b7 := Lib.hid b7
        replace b14 := Lib.hid b14
        replace hall := Lib.hid hall
        clear R PC T4 X0 O4
        rw [e15]
        replace e15 := Lib.hid e15
        have wk1 : IntKind.i64.wrap ((k : Int) + 1) = (k : Int) + 1 := IntWalk.i64_in _ (by omega)
        go_wp2_with fail
        go_roundg (29 - k)
        case measure => have := hg.out; omega
        case rel => exact ⟨k + 1, rfl, by omega, by omega, T5.out⟩
    · obtain rfl : k = 30 := by omega
      have F : LdEnd w (.returned (.tuple #[(.pointer (some ⟨a.g, 0, none⟩)), (.pointer (some ⟨r.g, 0, none⟩)), .bool true])) wo := ⟨a, r, rfl, T2.out⟩
      replace F := Lib.hid F
      clear T2 h1
      go_wp2_with fail
      exact bodyPost_ret (results_tmp3 (t := 0) (u := 1) (v := 2) rfl _ _ _) rfl F.out
end Go.Proofs.Ytmffdlebahdihaa.Item

