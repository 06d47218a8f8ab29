/- The walk of the program's item.Write. -/
import Derived.Test.YtolpjgpimholcaaItemParts
import Derived.Test.YtolpjgpimholcaaStrB
namespace Go.Proofs.Ytolpjgpimholcaa.Item
open Go Go.RowKit Go.Proofs.Ytolpjgpimholcaa.Mem Go.Proofs.Ytolpjgpimholcaa.CodecPure Go.Proofs.Ytolpjgpimholcaa.ArenaPure Go.Proofs.Ytolpjgpimholcaa.Codec Go.Proofs.Ytolpjgpimholcaa.Arena Go.Proofs.Ytolpjgpimholcaa.NeedPure Go.Proofs.Ytolpjgpimholcaa.Need
set_option linter.unusedVariables false
set_option maxRecDepth 100000
variable {w w' : World} {a : Ar} {s : St}
theorem index_hv (ex fl vl kl : Int) (k : Nat) (h : k < 12) : ∀ W : World, (Instr.index 45 (.agg #[.int .i64 (-1), .int .i64 (-1), .int .i64 (-1), .int .i64 (-1), .int .i64 0, .int .i64 ex, .int .i64 fl, .int .i64 vl, .int .i64 kl, .int .i64 0, .int .i64 0, .int .i64 0]) (.int .i64 k)).run Try.prog W = .ok (.int .i64 ((hvals ex fl vl kl).getD k 0)) W := by
  match k, h with
  | 0, _ => exact fun W => by kernel_rfl
  | 1, _ => exact fun W => by kernel_rfl
  | 2, _ => exact fun W => by kernel_rfl
  | 3, _ => exact fun W => by kernel_rfl
  | 4, _ => exact fun W => by kernel_rfl
  | 5, _ => exact fun W => by kernel_rfl
  | 6, _ => exact fun W => by kernel_rfl
  | 7, _ => exact fun W => by kernel_rfl
  | 8, _ => exact fun W => by kernel_rfl
  | 9, _ => exact fun W => by kernel_rfl
  | 10, _ => exact fun W => by kernel_rfl
  | 11, _ => exact fun W => by kernel_rfl
theorem grown_ok (w : World) (n : Nat) (hn : n ≤ maxLen) : n ≤ grownCap w n 0 5 ∧ grownCap w n 0 5 ≤ maxLen := ⟨grownCap_ge _ _ _ _, grownCap_le_maxLen _ _ _ _ hn⟩
theorem field_spot0 (p q : Int) : ∀ W : World, (Instr.field 106 (.agg #[.int .i64 p, .int .i64 q]) 0).run Try.prog W = .ok (.int .i64 p) W := fun W => by kernel_rfl
theorem field_spot1 (p q : Int) : ∀ W : World, (Instr.field 106 (.agg #[.int .i64 p, .int .i64 q]) 1).run Try.prog W = .ok (.int .i64 q) W := fun W => by kernel_rfl
theorem spots_fact : ∃ sp : Array Value, (∀ w, Calls Try.prog 65 #[] w fun e w' => e = .returned (.agg sp) ∧ Chg (fun _ => False) w w') ∧
    (∀ W : World, (Instr.index 107 (.agg sp) (.int .i64 4)).run Try.prog W = .ok (.agg #[.int .i64 16, .int .i64 8]) W) ∧ (∀ W : World, (Instr.index 107 (.agg sp) (.int .i64 3)).run Try.prog W = .ok (.agg #[.int .i64 12, .int .i64 4]) W) :=
  ⟨SP, spots_calls, index_spot 4 (by decide) (by decide), index_spot 3 (by decide) (by decide)⟩
/-- an item's struct, as a value -/
def itemV (K V : ByteArray) (fl ex cas : Int) : Value := .agg #[.string K, .string V, .int .u32 fl, .int .u32 ex, .int .u64 cas]
/-- the item lies in its chunks -/
def WEnd (w : World) (a : Ar) (s : St) (tc : Int) (P : List Int) (K V : ByteArray) (ex fl cas : Int) (e : Ending) (w' : World) : Prop :=
  ∃ t, e = .returned (.int .i64 0) ∧ Lies w' a t ∧ ItemK s t tc P (bs K) (bs V) ex fl cas P.length ∧ Chg (· ∈ a.pb) w w'
set_option maxHeartbeats 2000000 in
theorem write_ok (hl : Lies w a s) (T : List Int) (AT : Option Addr) (cT : Nat) (hT : Sl w .i64 AT T) (hTm : T.length ≤ 1000) (hTw : ∀ x ∈ T, -9223372036854775808 ≤ x ∧ x ≤ 9223372036854775807)
    (P : List Int) (v : Value) (hP : SlV w .i64 v P) (K V : ByteArray) (ex fl cas : Int) (c more : Nat) (tc : Int) (hn : needC T K.size V.size = ((c : Int), (more : Int), 0)) (hc : c < T.length) (htc : T.getD c 0 = tc)
    (hlen : P.length = 1 + more) (hTo : ∀ ad, AT = some ad → ad.block ∉ a.pb) (hPo : ∀ A n c, v = .slice A n c → ∀ ad, A = some ad → ad.block ∉ a.pb) (F : Fine s tc P (bs K) (bs V) ex fl cas) (ha : offV tc (bs K).length (bs V).length P.length = (bs V).length) :
    Calls Try.prog 17 #[(.pointer (some ⟨a.g, 0, none⟩)), .slice AT T.length cT, v, itemV K V fl ex cas] w (WEnd w a s tc P K V ex fl cas) := by
  obtain ⟨AP, cP, rfl, hs, hcap, hmx, hnil⟩ := hP.v
  have hPo' := hPo _ _ _ rfl
  clear hPo
  have X : Hid (w.alloc (.cells #[.string K, .string V, .int .u32 fl, .int .u32 ex, .int .u64 cas] 36) = w.alloc (.cells #[.string K, .string V, .int .u32 fl, .int .u32 ex, .int .u64 cas] 36)) := rfl
  have XB := heap_alloc_at w (.cells #[.string K, .string V, .int .u32 fl, .int .u32 ex, .int .u64 cas] 36)
  have C1 : Hid (Chg (fun _ => False) w (w.alloc (.cells #[.string K, .string V, .int .u32 fl, .int .u32 ex, .int .u64 cas] 36))) := Chg.alloc _ _ _
  have L1 := Lib.hid (hl.chg C1.out id id fun _ _ => id)
  have xpb : w.heap.size ∉ a.pb := fun hb => by
    obtain ⟨i, hi, e⟩ := hl.of_mem hb
    have := blk_lt (hl.page i hi)
    omega
  have PBL : Hid (∀ b ∈ a.pb, b < w.heap.size) := fun b hb => by
    obtain ⟨i, hi, e⟩ := hl.of_mem hb
    have := blk_lt (hl.page i hi)
    omega
  have KEEP : Hid (∀ W, Chg (· ∈ a.pb) (w.alloc (.cells #[.string K, .string V, .int .u32 fl, .int .u32 ex, .int .u64 cas] 36)) W → Sl W .i64 AT T ∧ Sl W .i64 AP P ∧ W.cell? ⟨w.heap.size, 0, none⟩ = some (.string K) ∧ W.cell? ⟨w.heap.size, 1, none⟩ = some (.string V) ∧ W.cell? ⟨w.heap.size, 2, none⟩ = some (.int .u32 fl) ∧ W.cell? ⟨w.heap.size, 3, none⟩ = some (.int .u32 ex) ∧ W.cell? ⟨w.heap.size, 4, none⟩ = some (.int .u64 cas)) := fun W hc => by
    have hb := hc.keep XB xpb
    exact ⟨(hT.chg C1.out fun _ _ => id).chg hc hTo, (hs.chg C1.out fun _ _ => id).chg hc hPo', by rw [blk_cell hb]; rfl, by rw [blk_cell hb]; rfl, by rw [blk_cell hb]; rfl, by rw [blk_cell hb]; rfl, by rw [blk_cell hb]; rfl⟩
  have N := need_calls AT cT T K.size V.size (w.alloc (.cells #[.string K, .string V, .int .u32 fl, .int .u32 ex, .int .u64 cas] 36)) (hT.chg C1.out fun _ _ => id) (by omega) hTw
  rw [hn] at N
  replace N := Lib.hid N
  obtain ⟨np, hnp⟩ : ∃ np, P.length = np := ⟨_, rfl⟩
  rw [hnp] at hlen hcap ⊢
  have hne : ((np : Int) != 1 + (more : Int)) = false := by rw [bne_eq_false_iff_eq]; omega
  have hmo : more ≤ 16 := by rw [← hnp] at hlen; have := F.most; omega
  have np0 : np ≤ 16 := by rw [← hnp]; exact F.most
  have np1 : 0 < np := by omega
  replace hnp := Lib.hid hnp
  replace hlen := Lib.hid hlen
  have PA := fun (W : World) (h : Sl W .i64 AT T) (v : Value) (hv : SlV W .i64 v P) => parts_calls T AT cT h hTm P v hv F.pos (by have := F.most; omega) c hc tc htc K.size V.size (by have := F.lens.2.1; rw [bs_length] at this; exact this) (by have := F.lens.2.2; rw [bs_length] at this; exact this) (by have := F.size; rw [bs_length] at this; exact this) (fun p hp => by
    have := F.ok.high
    obtain ⟨_, h1, h2, _⟩ := F.inn p hp
    omega)
  replace PA := Lib.hid PA
  have c2 : (c : Int) < T.length := by omega
  have tcb : 44 ≤ tc ∧ tc ≤ 1024 := ⟨F.size.2.1, F.size.2.2⟩
  have nums := F.nums
  have h32 := F.lens
  have P0 : 0 ≤ P.getD 0 0 ∧ P.getD 0 0 ≤ 40000 := by
    obtain ⟨_, h1, h2, _⟩ := F.p_wi F.pos
    have := F.ok.high
    omega
  rw [bs_length, bs_length] at h32
  obtain ⟨n1, n2, n3⟩ := nums
  obtain ⟨n11, n12⟩ := n1
  obtain ⟨n21, n22⟩ := n2
  obtain ⟨n31, n32⟩ := n3
  obtain ⟨h321, h322, h323⟩ := h32
  have FIT := Lib.hid (fun f (hf : f < 12) => hvals_fits (ex := ex) (fl := fl) (vl := (V.size : Int)) (kl := (K.size : Int)) ⟨n11, n12⟩ ⟨n21, n22⟩ (by omega) (by omega) f hf)
  obtain ⟨x, hx⟩ : ∃ x, P.getD 0 0 = x := ⟨_, rfl⟩
  rw [hx] at P0
  obtain ⟨x00, x01⟩ := P0
  have HW : Hid (within s x 40) := by rw [← hx]; exact F.hdr
  replace hx := Lib.hid hx
  replace hn := Lib.hid hn
  replace F := Lib.hid F
  replace ha := Lib.hid ha
  replace hl := Lib.hid hl
  replace htc := Lib.hid htc
  clear hs hT hP hTw hTo hPo' XB X
  unfold itemV
  go_enter Try.func17, Try.ntmps17
  go_wp2_with fail
  generalize hw1 : w.alloc (.cells #[.string K, .string V, .int .u32 fl, .int .u32 ex, .int .u64 cas] 36) = w1 at C1 L1 KEEP N ⊢
  clear hw1
  refine N.out.mono ?_
  rintro e w2 ⟨rfl, hd⟩
  have L2 := Lib.hid (L1.out.chg (hd.chg (fun _ => False)) id id fun _ _ => id)
  have C2 : Hid (Chg (· ∈ a.pb) w1 w2) := hd.chg _
  have CW : Hid (Chg (· ∈ a.pb) w w2) := (C1.out.mono fun _ _ h => h.elim).trans C2.out
  clear hd N
  go_wp2_with fail
  have RD : Hid (∀ W k, Lies W a s → k < np → Calls Try.prog 63 #[(.pointer (some ⟨a.g, 0, none⟩)), (.int .i64 (P.getD k 0)), (.int .i64 tc)] W fun e w' => ∃ A n c, e = .returned (.tuple #[.slice A n c, .int .i64 0]) ∧ Chg (fun _ => False) W w') := fun W k h hk => (read_calls h _ tc (by
    obtain ⟨_, h1, h2, _⟩ := F.out.p_wi (i := k) (by rw [hnp.out]; exact hk)
    have := F.out.ok.high
    omega)).mono fun e w' ⟨A, c, e, _, h2⟩ => ⟨A, _, c, by
    unfold readA at e
    rw [if_pos (F.out.p_wi (by rw [hnp.out]; exact hk))] at e
    exact e, h2⟩
  go_loopg [47] np (fun g i wr => ∃ k : Nat, i = .int .i64 k ∧ g = np - k ∧ k ≤ np ∧ Hid (Chg (fun _ => False) w2 wr))
  case atStart => exact ⟨0, rfl, rfl, by omega, Chg.refl _ _⟩
  case round =>
    obtain ⟨k, rfl, hg, hk, CK⟩ := hrel
    obtain ⟨wo, rfl⟩ : ∃ wo : World, wo = wr := ⟨_, rfl⟩
    replace hg := Lib.hid hg
    by_cases h1 : k < np
    · have h1' : (k : Int) < np := by omega
      obtain ⟨kT, kP, -, -, -, -, -⟩ := KEEP.out wo (C2.out.trans (CK.out.mono fun _ _ h => h.elim))
      obtain ⟨ad, rfl, e0⟩ := kP k (by rw [hnp.out]; exact h1)
      obtain ⟨at', rfl, e1⟩ := kT c hc
      rw [htc.out] at e1
      have R1 := Lib.hid (RD.out wo k (L2.out.chg CK.out id id fun _ _ => id) h1)
      clear kT kP
      generalize P.getD k 0 = pk at e0 R1
      go_wp2_with fail
      refine R1.out.mono ?_
      rintro e w3 ⟨A3, n3, c3, rfl, hc3⟩
      have C3 := Lib.hid (CK.out.trans hc3)
      clear hc3 R1
      go_wp2_with fail
      go_roundg (np - (k + 1))
      case measure => have := hg.out; omega
      case rel => exact ⟨k + 1, rfl, rfl, by omega, C3.out⟩
    · have h1' : ¬ (k : Int) < np := by omega
      have L3 := Lib.hid (L2.out.chg CK.out id id fun _ _ => id)
      have C3 : Hid (Chg (· ∈ a.pb) w1 wo) := C2.out.trans (CK.out.mono fun _ _ h => h.elim)
      have CW3 : Hid (Chg (· ∈ a.pb) w wo) := CW.out.trans (CK.out.mono fun _ _ h => h.elim)
      clear hg hk CK L2 C2 CW RD
      obtain ⟨-, kP, x0, x1, x2, x3, x4⟩ := KEEP.out wo C3.out
      obtain ⟨ad, rfl, e0⟩ := kP 0 (by rw [hnp.out]; exact np1)
      rw [add_zero, hx.out] at e0
      clear kP
      go_wp2_with fail
      go_loopg [81] 12 (fun g i wr => ∃ (k : Nat) (t : St), i = .int .i64 k ∧ g = 12 - k ∧ k ≤ 12 ∧ Hid (Lies wr a t) ∧ Hid (HdrK s t x (hvals ex fl V.size K.size) k) ∧ Hid (Chg (· ∈ a.pb) wo wr))
      case atStart => exact ⟨0, s, rfl, rfl, by omega, L3.out, ⟨Lay.refl F.out.ok _, fun g hg => by omega⟩, Chg.refl _ _⟩
      case round =>
        clear e0 x0 x1 x2 x3 x4 L3
        obtain ⟨j, t, rfl, hg, hj, LT, HK, CT⟩ := hrel
        obtain ⟨wp, rfl⟩ : ∃ wo : World, wo = wr := ⟨_, rfl⟩
        replace hg := Lib.hid hg
        by_cases j12 : j < 12
        · have j12' : (j : Int) < 12 := by omega
          have IX := index_hv ex fl V.size K.size j j12
          by_cases j4 : j = 4
          · have t4 : ((j : Int) != 4) = false := by rw [j4]; rfl
            have HK2 : Hid (HdrK s t x (hvals ex fl V.size K.size) (j + 1)) := by
              have := HK.out
              rw [j4] at this
              rw [j4]
              exact this.skip
            generalize (hvals ex fl V.size K.size).getD j 0 = vj at IX
            clear j4
            go_wp2_with fail
            go_roundg (12 - (j + 1))
            case measure => have := hg.out; omega
            case rel => exact ⟨j + 1, t, rfl, rfl, by omega, LT.out, HK2.out, CT.out⟩
          · have t4 : ((j : Int) != 4) = true := by rw [bne_iff_ne]; omega
            have ft := FIT.out j j12
            have HK2 := Lib.hid (HK.out.step j12 j4 HW.out ft)
            have S1 := Lib.hid (set_calls LT.out x j ((hvals ex fl V.size K.size).getD j 0) (by omega) (by
              unfold Fits at ft
              split at ft
              · unfold Pl at ft; omega
              · have := fw_cases (f := j) (by omega) (by omega) (by omega)
                have p8 : (2 : Int) ^ (8 * (fw j).toNat) ≤ 4294967296 := by
                  rcases this with e | e | e <;> rw [e] <;> decide
                omega))
            generalize (hvals ex fl V.size K.size).getD j 0 = vj at IX S1 HK2
            clear ft j4
            generalize (itemSet t x j vj).1 = t2 at S1 HK2
            generalize (itemSet t x j vj).2 = er at S1
            go_wp2_with fail
            refine S1.out.mono ?_
            rintro e w5 ⟨rfl, l5, c5⟩
            have L5 := Lib.hid l5
            have C5 := Lib.hid (CT.out.trans c5)
            clear l5 c5 S1
            go_wp2_with fail
            go_roundg (12 - (j + 1))
            case measure => have := hg.out; omega
            case rel => exact ⟨j + 1, t2, rfl, rfl, by omega, L5.out, HK2.out, C5.out⟩
        · have ej : j = 12 := by omega
          subst ej
          clear hg FIT hj
          have CT3 : Hid (Chg (· ∈ a.pb) w1 wp) := C3.out.trans CT.out
          have CTW : Hid (Chg (· ∈ a.pb) w wp) := CW3.out.trans CT.out
          clear C3 CW3 CT
          obtain ⟨sp, SPC, IX4, IX3⟩ := spots_fact
          replace SPC := Lib.hid SPC
          have FD0 := field_spot0 16 8
          have FD1 := field_spot1 16 8
          have wx : IntKind.i64.wrap (x + 16) = x + 16 := IntWalk.i64_in _ (by omega)
          obtain ⟨-, -, -, -, -, -, y4⟩ := KEEP.out wp CT3.out
          have Cd : Hid (Chg (fun _ => False) wp (World.drew wp)) := Chg.drew _ _
          have ST := F.out.start (t := t) (by rw [hx.out, bs_length, bs_length]; exact HK.out)
          rw [hx.out] at ST
          have SN := Lib.hid (fun (W : World) (h : Lies W a t) => setnumber_calls h (x + 16) 8 cas (by omega) (by omega) (by omega))
          rw [ST.1] at SN
          go_upto_region 20 with fail
          go_cut [] (fun wc => Hid (Lies wc a (lay t (x + 16) (leb cas 8))) ∧ Hid (Chg (· ∈ a.pb) wp wc))
          case first =>
           go_wp2_with fail
           go_region_held3 (fun w' => w'.cell? ⟨w.heap.size, 4, none⟩ = some (.int .u64 cas)) (go_keep)
            (first
              | (go_at_call 65; refine (SPC.out (World.drew wp)).mono ?_; rintro e w6 ⟨rfl, c6⟩; have C6 := Lib.hid (Cd.out.trans c6); have g6 : w6.cell? ⟨w.heap.size, 4, none⟩ = some (.int .u64 cas) := (C6.out.cell y4 id); clear c6; skip)
              | (go_at_call 65; refine (SPC.out w6).mono ?_; rintro e w7 ⟨rfl, c7⟩; have C7 := Lib.hid (C6.out.trans c7); have g7 : w7.cell? ⟨w.heap.size, 4, none⟩ = some (.int .u64 cas) := (C7.out.cell y4 id); clear c7; skip)
              | (go_at_call 64; refine (SN.out w7 (LT.out.chg C7.out id id fun _ _ => id)).mono ?_; rintro e w8 ⟨rfl, l8, c8⟩; have L8 := Lib.hid l8; have C8 : Hid (Chg (· ∈ a.pb) wp w8) := ((C7.out.mono fun _ _ h => h.elim).trans c8); have g8 : w8.cell? ⟨w.heap.size, 4, none⟩ = some (.int .u64 cas) := (C8.out.cell y4 xpb); clear l8 c8; skip))
           all_goals
             go_wp2_with fail
             go_meet
             exact ⟨L8.out, C8.out⟩
          case rest =>
            obtain ⟨L8, C8⟩ := hcut
            have C38 : Hid (Chg (· ∈ a.pb) w1 wc) := CT3.out.trans C8.out
            have CW8 : Hid (Chg (· ∈ a.pb) w wc) := CTW.out.trans C8.out
            clear CT3 CTW C8 y4 Cd SN LT IX4 wx FD0 FD1
            obtain ⟨-, -, y0, -, -, -, -⟩ := KEEP.out wc C38.out
            have KC := fun W => Lib.run_convert_string_bytes (P := Try.prog) W 9 52 5 K Try.underlying9 Try.underlying52 Try.underlying5
            have WC := write_calls (L8.out.chg (chg_bytes wc 5 K) id id fun _ _ => id) (x + 40) (some ⟨wc.heap.size, 0, none⟩) (grownCap wc K.size 0 5) (bs K) (sl_bytes wc 5 K) (bs_bytes K) (by rw [bs_length]; omega) (by omega)
            rw [ST.2.1, bs_length] at WC
            have IK := Lib.hid ST.2.2
            have Cb : Hid (Chg (· ∈ a.pb) wc (Lib.bytesWorld wc 5 K)) := (chg_bytes wc 5 K).mono fun _ _ h => h.elim
            replace WC := Lib.hid WC
            clear ST L8
            generalize lay (lay t (x + 16) (leb cas 8)) (x + 40) (bs K) = t0 at WC IK
            go_wp2_with fail
            refine WC.out.mono ?_
            rintro e w9 ⟨rfl, l9, c9⟩
            have L9 := Lib.hid l9
            have C9 : Hid (Chg (· ∈ a.pb) w1 w9) := (C38.out.trans Cb.out).trans c9
            have CW9 : Hid (Chg (· ∈ a.pb) w w9) := (CW8.out.trans Cb.out).trans c9
            clear l9 c9 WC C38 CW8 Cb y0 KC HK
            have FD0 := field_spot0 12 4
            go_wp2_with fail
            refine (SPC.out w9).mono ?_
            rintro e w10 ⟨rfl, c10⟩
            have L10 := Lib.hid (L9.out.chg c10 id id fun _ _ => id)
            have C10 : Hid (Chg (· ∈ a.pb) w1 w10) := C9.out.trans (c10.mono fun _ _ h => h.elim)
            have CW10 : Hid (Chg (· ∈ a.pb) w w10) := CW9.out.trans (c10.mono fun _ _ h => h.elim)
            clear c10 C9 CW9 L9 SPC
            obtain ⟨-, -, -, y1, -, -, -⟩ := KEEP.out w10 C10.out
            have KC := fun W => Lib.run_convert_string_bytes (P := Try.prog) W 9 52 5 V Try.underlying9 Try.underlying52 Try.underlying5
            have Cv := chg_bytes w10 5 V
            have L11 : Hid (Lies (Lib.bytesWorld w10 5 V) a t0) := L10.out.chg Cv id id fun _ _ => id
            have C11 : Hid (Chg (· ∈ a.pb) w1 (Lib.bytesWorld w10 5 V)) := C10.out.trans (Cv.mono fun _ _ h => h.elim)
            have CW11 : Hid (Chg (· ∈ a.pb) w (Lib.bytesWorld w10 5 V)) := CW10.out.trans (Cv.mono fun _ _ h => h.elim)
            have SV := Lib.hid (sl_bytes w10 5 V)
            obtain ⟨kT, kP, z0, z1, -, -, -⟩ := KEEP.out _ C11.out
            have PC := Lib.hid (PA.out _ kT (.slice (some ad) np cP) (SlV.of kP hnp.out.symm hcap hmx fun e => by cases e))
            have VB : Hid (w10.heap.size < (Lib.bytesWorld w10 5 V).heap.size) := by show _ < _; rw [Lib.bytesWorld_size]; omega
            obtain ⟨vc, hvc⟩ : ∃ vc, grownCap w10 V.size 0 5 = vc := ⟨_, rfl⟩
            obtain ⟨vb, hvb⟩ : ∃ vb, w10.heap.size = vb := ⟨_, rfl⟩
            rw [hvb] at SV VB
            have VP : Hid (vb ∉ a.pb) := fun hb => by have := PBL.out vb hb; have := CW10.out.size; omega
            have VC : Hid (V.size ≤ vc ∧ vc ≤ maxLen) := by rw [← hvc]; exact grown_ok w10 V.size (by unfold maxLen; omega)
            clear kT kP C10 CW10 L10 Cv PA
            go_wp2_with fail
            clear hvc hvb z0 z1 y1 KC
            generalize Lib.bytesWorld w10 5 V = w11 at L11 C11 CW11 SV PC VB ⊢
            refine PC.out.mono ?_
            rintro e w12 ⟨A12, c12, rfl, P12, c12'⟩
            have L12 := Lib.hid (L11.out.chg c12' id id fun _ _ => id)
            have C12 : Hid (Chg (· ∈ a.pb) w1 w12) := C11.out.trans (c12'.mono fun _ _ h => h.elim)
            have CW12 : Hid (Chg (· ∈ a.pb) w w12) := CW11.out.trans (c12'.mono fun _ _ h => h.elim)
            replace SV := Lib.hid (SV.out.chg c12' fun _ _ => id)
            have B11 : Hid (w.heap.size ≤ w11.heap.size) := CW11.out.size
            replace P12 := Lib.hid P12
            have VB2 : Hid (vb < w12.heap.size) := Nat.lt_of_lt_of_le VB.out c12'.size
            clear c12' L11 C11 CW11 PC
            rw [hnp.out] at P12 ⊢
            obtain ⟨g12, eg, hg12, -, -⟩ := P12.out.cells np1
            subst eg
            obtain ⟨ap, hap⟩ : ∃ ap : Addr, ap = ⟨g12, 0, none⟩ := ⟨_, rfl⟩
            rw [← hap] at P12 ⊢
            have GP : Hid (g12 ∉ a.pb) := fun hb => by have := PBL.out g12 hb; have := B11.out; omega
            have PCS : Hid (∀ W (k : Nat), Chg (· ∈ a.pb) w12 W → k < np → W.cell? (ap.add (k * 2)) = some (.int .i64 (partP P K.size k)) ∧ W.cell? ⟨(ap.add (k * 2)).block, (ap.add (k * 2)).off + 1, none⟩ = some (.int .i64 (offV tc K.size V.size (k + 1) - offV tc K.size V.size k))) := fun W k hW hk => by
              have P := P12.out
              rw [hap] at P
              obtain ⟨g, e, -, h1, h2⟩ := P.cells hk
              injection e with e
              injection e with e
              subst e
              rw [hap, add_plain, Nat.zero_add]
              exact ⟨hW.cell h1 GP.out, hW.cell h2 GP.out⟩
            replace hap := Lib.hid hap
            have SL0 : Hid (SlV w12 .u8 (.slice (some ⟨vb, 0, none⟩) V.size vc) ((bs V).drop (offV tc K.size V.size 0).toNat)) := by
              show SlV _ _ _ ((bs V).drop 0)
              rw [List.drop_zero]
              exact SlV.of SV.out (bs_length V).symm VC.out.1 VC.out.2 fun e => by cases e
            clear hg12 SV VC P12
            go_wp2_with fail
            go_loopg [19, 20, 131] np (fun g link value i wr => ∃ (k : Nat) (t : St) (lk : Int) (R : Option Addr) (m d : Nat), link = .int .i64 lk ∧ value = .slice R m d ∧ i = .int .i64 k ∧ g = np - k ∧ k ≤ np ∧ Hid (lk = linkP P (k - 1)) ∧ Hid (SlV wr .u8 (.slice R m d) ((bs V).drop (offV tc K.size V.size k).toNat)) ∧ Hid (∀ g, (Value.slice R m d).ownBlock = some g → g = vb) ∧ Hid (Lies wr a t) ∧ Hid (ItemK s t tc P (bs K) (bs V) ex fl cas k) ∧ Hid (Chg (· ∈ a.pb) w12 wr))
            case atStart => exact ⟨0, t0, x + 12, _, _, _, rfl, rfl, rfl, rfl, Nat.zero_le _, by show x + 12 = linkP P 0; unfold linkP; rw [if_pos rfl, hx.out], SL0.out, fun g hg => by injection hg with e; exact e.symm, L12.out, IK.out, Chg.refl _ _⟩
            case round =>
              clear L12 IK SL0
              obtain ⟨k2, t2, lk, R, m, d, rfl, rfl, rfl, hg, hk, LK, SLk, BLk, Lk, IKk, Ck⟩ := hrel
              obtain ⟨wo2, rfl⟩ : ∃ wo : World, wo = wr := ⟨_, rfl⟩
              replace hg := Lib.hid hg
              by_cases k12 : k2 < np
              · have k12' : (k2 : Int) < np := by omega
                obtain ⟨p1, p2⟩ := PCS.out wo2 k2 Ck.out k12
                obtain ⟨-, kP, -, -, -, -, -⟩ := KEEP.out wo2 (C12.out.trans Ck.out)
                obtain ⟨ad', ea, e1⟩ := kP k2 (by rw [hnp.out]; exact k12)
                cases ea
                have FO := offV_mono (tc := tc) (kl := K.size) (vl := V.size) (by have := F.out.size.1; rw [bs_length] at this; exact this) F.out.size.2.1 (by omega) k2
                obtain ⟨o0, ho0⟩ : ∃ o0 : Nat, offV tc K.size V.size k2 = o0 := ⟨(offV tc K.size V.size k2).toNat, by omega⟩
                obtain ⟨nk, hnk⟩ : ∃ nk : Nat, offV tc K.size V.size (k2 + 1) - offV tc K.size V.size k2 = nk := ⟨(offV tc K.size V.size (k2 + 1) - offV tc K.size V.size k2).toNat, by omega⟩
                have FO2 := (offV_mono (tc := tc) (kl := K.size) (vl := V.size) (by have := F.out.size.1; rw [bs_length] at this; exact this) F.out.size.2.1 (by omega) (k2 + 1)).2.1
                have onk : o0 + nk ≤ V.size := by omega
                have PVE : Hid (partV tc K.size (bs V) k2 = ((bs V).drop o0).take nk) := by
                  unfold partV
                  rw [bs_length, hnk, ho0]; rfl
                have PVN : Hid (offV tc K.size V.size (k2 + 1) = ((o0 + nk : Nat) : Int)) := by show _ = _; omega
                rw [ho0] at SLk
                rw [hnk] at p2
                obtain ⟨pk, hpk⟩ : ∃ pk, partP P K.size k2 = pk := ⟨_, rfl⟩
                rw [hpk] at p1
                have PKR : 0 ≤ pk ∧ pk ≤ 100000 := by
                  have h1 := F.out.part (i := k2) (by rw [hnp.out]; exact k12)
                  obtain ⟨o, a1, a2, a3, a4, -⟩ := h1
                  have h2 := F.out.p_wi (i := k2) (by rw [hnp.out]; exact k12)
                  have := F.out.ok.high
                  obtain ⟨_, h3, h4, _⟩ := h2
                  rw [bs_length] at a2 a3 a4
                  rw [hpk] at a2
                  omega
                obtain ⟨pk0, pk1⟩ := PKR
                have dl : ((bs V).drop o0).length = V.size - o0 := by rw [List.length_drop, bs_length]
                obtain ⟨m', d', eS, -⟩ : ∃ m' d', (Value.slice R m d) = .slice R m' d' ∧ m' = ((bs V).drop o0).length := by
                  obtain ⟨A', c', e, -⟩ := SLk.out.v
                  injection e with e1 e2 e3
                  subst e1
                  exact ⟨m, d, rfl, e2⟩
                replace hpk := Lib.hid hpk
                replace hnk := Lib.hid hnk
                replace ho0 := Lib.hid ho0
                clear FO FO2 eS dl
                have WP : Hid (Chg (fun _ => False) wo2 (wo2.alloc (.cells #[.int .i64 pk, .int .i64 nk] 112))) := Chg.alloc _ _ _
                have XP := heap_alloc_at wo2 (.cells #[.int .i64 pk, .int .i64 nk] 112)
                have wop : Hid (wo2.heap.size ∉ a.pb) := fun hb => by have := PBL.out _ hb; have := CW12.out.size; have := Ck.out.size; omega
                replace XP := Lib.hid XP
                obtain ⟨pj, hpj⟩ : ∃ pj, P.getD k2 0 = pj := ⟨_, rfl⟩
                rw [hpj] at e1
                have PJR : 0 ≤ pj ∧ pj ≤ 100000 := by
                  have h2 := F.out.p_wi (i := k2) (by rw [hnp.out]; exact k12)
                  have := F.out.ok.high
                  obtain ⟨_, h3, h4, _⟩ := h2
                  omega
                have LKR : 0 ≤ lk ∧ lk ≤ 100000 := by
                  obtain ⟨o, a1, a2, a3, -⟩ := F.out.link (i := k2 - 1) (by rw [hnp.out]; omega)
                  have h2 := F.out.p_wi (i := k2 - 1) (by rw [hnp.out]; omega)
                  have := F.out.ok.high
                  obtain ⟨_, h3, h4, _⟩ := h2
                  have := LK.out
                  omega
                have e1w := WP.out.cell e1 id
                replace hpj := Lib.hid hpj
                go_upto_if 137 with fail
                go_cut [19] (fun link wc => ∃ t3, link = .int .i64 (linkP P k2) ∧ Hid (Lies wc a t3) ∧ Hid (ItemM s t3 tc P (bs K) (bs V) ex fl cas k2) ∧ Hid (Chg (· ∈ a.pb) (wo2.alloc (.cells #[.int .i64 pk, .int .i64 nk] 112)) wc))
                case first =>
                  by_cases q0 : k2 = 0
                  · have q0' : ¬ (0 : Int) < k2 := by omega
                    have FM : Hid (ItemM s t2 tc P (bs K) (bs V) ex fl cas k2) := by
                      have := IKk.out
                      rw [q0] at this
                      rw [q0]
                      exact this.first
                    have LE : Hid (lk = linkP P k2) := by have := LK.out; rw [q0] at this; rw [q0]; exact this
                    have LW := Lib.hid (Lk.out.chg WP.out id id fun _ _ => id)
                    clear q0
                    go_wp2_with fail
                    go_meet
                    exact ⟨t2, by rw [LE.out], LW.out, FM.out, Chg.refl _ _⟩
                  · have q0' : (0 : Int) < k2 := by omega
                    have FM := Lib.hid (IKk.out.link F.out (by omega) (by rw [hnp.out]; exact k12))
                    rw [← LK.out, hpj.out] at FM
                    have S1 := Lib.hid (setplace_calls (Lk.out.chg WP.out id id fun _ _ => id) lk pj (by omega) (by omega))
                    have S2 := Lib.hid (fun (W : World) (h : Lies W a (setPlace t2 lk pj).1) => setplace_calls h pj (-1) (by omega) (by decide))
                    have LE : Hid (pj = linkP P k2) := by unfold linkP; rw [if_neg q0]; exact hpj.out.symm
                    have KP2 : Hid (∀ W, Chg (· ∈ a.pb) wo2 W → W.cell? (ad.add k2) = some (.int .i64 pj)) := fun W hW => by
                      obtain ⟨-, kP, -, -, -, -, -⟩ := KEEP.out W ((C12.out.trans Ck.out).trans hW)
                      obtain ⟨ad', ea, e1⟩ := kP k2 (by rw [hnp.out]; exact k12)
                      cases ea
                      rw [hpj.out] at e1
                      exact e1
                    generalize (setPlace t2 lk pj).2 = er1 at S1
                    generalize (setPlace t2 lk pj).1 = t3 at S1 S2 FM
                    generalize (setPlace t3 pj (-1)).2 = er2 at S2
                    generalize (setPlace t3 pj (-1)).1 = t4 at S2 FM
                    go_wp2_with fail
                    refine S1.out.mono ?_
                    rintro e w13 ⟨rfl, l13, c13⟩
                    have L13 := Lib.hid l13
                    have C13 := Lib.hid c13
                    have e2w := KP2.out w13 ((WP.out.mono fun _ _ h => h.elim).trans c13)
                    clear l13 c13 S1
                    go_wp2_with fail
                    refine (S2.out w13 L13.out).mono ?_
                    rintro e w14 ⟨rfl, l14, c14⟩
                    have L14 := Lib.hid l14
                    have C14 := Lib.hid (C13.out.trans c14)
                    clear l14 c14 S2
                    go_wp2_with fail
                    go_meet
                    exact ⟨t4, by rw [LE.out], L14.out, FM.out, C14.out⟩
                case rest =>
                  obtain ⟨t3, rfl, L3, M3, C3⟩ := hcut
                  have hxb := C3.out.keep XP.out wop.out
                  have q0c : wc.cell? ⟨wo2.heap.size, 0, none⟩ = some (.int .i64 pk) := by rw [blk_cell hxb]; rfl
                  have q1c : wc.cell? ⟨wo2.heap.size, 1, none⟩ = some (.int .i64 nk) := by rw [blk_cell hxb]; rfl
                  have C23 : Hid (Chg (· ∈ a.pb) wo2 wc) := (WP.out.mono fun _ _ h => h.elim).trans C3.out
                  have SLc : SlV wc .u8 (.slice R m d) ((bs V).drop o0) := SLk.out.off C23.out fun g hg hb => VP.out (by have := BLk.out g hg; rw [← this]; exact hb)
                  obtain ⟨v1, run1, sv1, bk1⟩ := SLc.toB Try.underlying52 elem_byte nk (by rw [List.length_drop, bs_length]; omega)
                  obtain ⟨A1, k1, rfl, sl1, -⟩ := sv1.v
                  have l1 : (((bs V).drop o0).take nk).length = nk := by rw [List.length_take, List.length_drop, bs_length]; omega
                  obtain ⟨v2, run2, sv2, bk2⟩ := SLc.fromB Try.underlying52 elem_byte nk (by rw [List.length_drop, bs_length]; omega)
                  obtain ⟨A2, k2', rfl, -⟩ := sv2.v
                  rw [List.drop_drop] at sv2 run2 bk2
                  have WC := write_calls (L3.out.chg (Chg.drew (fun _ => False) wc) id id fun _ _ => id) pk A1 k1 (((bs V).drop o0).take nk) (sl1.chg (Chg.drew (fun _ => False) wc) fun _ _ => id) (fun y hy => bs_bytes V y (List.mem_of_mem_drop (List.mem_of_mem_take hy))) (by rw [l1]; omega) (by omega)
                  have IK := M3.out.part F.out (by rw [hnp.out]; exact k12)
                  rw [bs_length, hpk.out, PVE.out] at IK
                  rw [l1] at WC run1
                  replace WC := Lib.hid WC
                  replace IK := Lib.hid IK
                  generalize (ArenaPure.write t3 pk (((bs V).drop o0).take nk)).1 = t5 at WC IK
                  generalize (ArenaPure.write t3 pk (((bs V).drop o0).take nk)).2 = er5 at WC
                  replace sv2 := Lib.hid sv2
                  have BL2 : Hid (∀ g, (Value.slice A2 ((bs V).drop (o0 + nk)).length k2').ownBlock = some g → g = vb) := fun g hg => BLk.out g (bk2 g hg)
                  obtain ⟨m2, hm2⟩ : ∃ m2, ((bs V).drop (o0 + nk)).length = m2 := ⟨_, rfl⟩
                  rw [hm2] at sv2 run2 BL2
                  replace hm2 := Lib.hid hm2
                  replace hxb := Lib.hid hxb
                  clear sl1 bk1 bk2 SLc l1 p1 p2 e1 e1w
                  have CDr : Hid (Chg (· ∈ a.pb) wc (World.drew wc)) := Chg.drew _ _
                  go_wp2_with fail
                  go_still_tail 7, (by kernel_rfl)
                  change wpList _ _ _ _ _ wc.drew
                  generalize wc.drew = wd at WC CDr ⊢
                  go_wp2_with fail
                  refine WC.out.mono ?_
                  rintro e w15 ⟨rfl, l15, c15⟩
                  replace c15 := CDr.out.trans c15
                  have L15 := Lib.hid l15
                  have C15 : Hid (Chg (· ∈ a.pb) w12 w15) := (Ck.out.trans C23.out).trans c15
                  have S15 : Hid (SlV w15 .u8 (.slice A2 m2 k2') ((bs V).drop (o0 + nk))) := sv2.out.off c15 fun g hg hb => VP.out (by have := BL2.out g hg; rw [← this]; exact hb)
                  clear q0c q1c
                  have hxb2 := c15.keep hxb.out wop.out
                  have q1d : w15.cell? ⟨wo2.heap.size, 1, none⟩ = some (.int .i64 nk) := by rw [blk_cell hxb2]; rfl
                  clear l15 c15 WC hxb2
                  go_wp2_with fail
                  go_roundg (np - (k2 + 1))
                  case measure => have := hg.out; omega
                  case rel =>
                    have e0 : (offV tc K.size V.size (k2 + 1)).toNat = o0 + nk := by rw [PVN.out]; omega
                    exact ⟨k2 + 1, t5, linkP P k2, A2, m2, k2', rfl, rfl, rfl, rfl, by omega, by rw [Nat.add_sub_cancel]; exact rfl, by rw [e0]; exact S15.out, BL2.out, L15.out, IK.out, C15.out⟩
              · have ek : k2 = np := by omega
                have IF : Hid (ItemK s t2 tc P (bs K) (bs V) ex fl cas P.length) := by rw [hnp.out, ← ek]; exact IKk.out
                have F2 : Hid (WEnd w a s tc P K V ex fl cas (.returned (.int .i64 0)) wo2) := ⟨t2, rfl, Lk.out, IF.out, CW12.out.trans Ck.out⟩
                have ek' : ¬ (k2 : Int) < np := by omega
                clear ek
                go_wp2_with fail
                go_ret
                exact F2.out
end Go.Proofs.Ytolpjgpimholcaa.Item
