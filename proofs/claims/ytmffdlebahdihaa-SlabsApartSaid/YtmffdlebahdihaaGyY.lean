import Derived.Test.YtmffdlebahdihaaGy
import Derived.Deep.CutRange
import Derived.Deep.CutBlock
/- SlabsApart: the counts at the end. -/
namespace Go.Proofs.Ytmffdlebahdihaa.Slab
open Go Go.RowKit Go.Shelf Go.Proofs.Ytmffdlebahdihaa.Mem Go.Proofs.Ytmffdlebahdihaa.CodecPure Go.Proofs.Ytmffdlebahdihaa.ArenaPure Go.Proofs.Ytmffdlebahdihaa.Codec Go.Proofs.Ytmffdlebahdihaa.Arena Go.Proofs.Ytmffdlebahdihaa.Item
set_option linter.unusedVariables false
set_option maxRecDepth 100000
variable {U : List (Nat × Nat)}
set_option maxHeartbeats 16000000 in
theorem apart_r2 : apart_parts.2.1 := by
  intro _
  unhygienic intros
  clear K1 R1 hn SLW
  obtain ⟨U, K, R, UL⟩ := hcut
  obtain ⟨AU, cU, rfl⟩ := R.out.o9.form
  obtain ⟨AO, cO, rfl⟩ := R.out.o10.form
  rw [u9_len] at R ⊢
  rw [u10_len] at R ⊢
  obtain ⟨un, hun⟩ : ∃ n, U.length = n := ⟨_, rfl⟩
  rw [hun] at R UL ⊢
  have un80 : un ≤ 80 := by have := UL.out; omega
  replace hun := Lib.hid hun
  go_wp2_with fail
  go_loopg [21] 3 (fun m vc wx => ∃ (c : Nat), vc = .int .i64 c ∧ m = 3 - c ∧ c ≤ 3 ∧ Hid (AI wo.heap.size base wo wx a h b rg r7 U) ∧ Hid (RU base (.slice AU un cU) (.slice AO un cO) U wx))
  case atStart => exact ⟨0, rfl, rfl, by omega, K.out, R.out⟩
  case round =>
    clear K R
    obtain ⟨c, rfl, hgc, hcl, K, R⟩ := hrel
    replace hgc := Lib.hid hgc
    by_cases h3 : c < 3
    · have h3' : (c : Int) < 3 := by omega
      go_wp2_with fail
      go_loopg [22, 23] un (fun m vn vk wx => ∃ (y : Nat), vn = .int .i64 ((U.take y).countP (fun u => u.2 == c) : Nat) ∧ vk = .int .i64 y ∧ m = un - y ∧ y ≤ un ∧ Hid (AI wo.heap.size base wo wx a h b rg r7 U) ∧ Hid (RU base (.slice AU un cU) (.slice AO un cO) U wx))
      case atStart => exact ⟨0, rfl, rfl, rfl, by omega, K.out, R.out⟩
      case round =>
        clear K R
        obtain ⟨y, rfl, rfl, hgy, hy, K, R⟩ := hrel
        replace hgy := Lib.hid hgy
        by_cases h4 : y < un
        · have h4' : (y : Int) < (un : Int) := by omega
          have yl : y < U.length := by rw [hun.out]; exact h4
          have ym : U[y] ∈ U := List.getElem_mem yl
          obtain ⟨g9, cs9, eA, -⟩ := R.out.o9.blk (by rw [u9_len]; omega)
          obtain ⟨g10, cs10, eB, -⟩ := R.out.o10.blk (by rw [u10_len]; omega)
          subst eA
          subst eB
          have c9 := (R.out.o9.cellAt y (by rw [u9_len]; exact yl)).1
          have c10 := (R.out.o10.cellAt y (by rw [u10_len]; exact yl)).1
          rw [u9_at yl] at c9
          rw [u10_at yl] at c10
          have c1 := K.out.f1
          have CP : Hid ((U.take (y + 1)).countP (fun u => u.2 == c) = (U.take y).countP (fun u => u.2 == c) + if (U[y]).2 == c then 1 else 0) := by
            show _ = _
            rw [List.take_succ_eq_append_getElem yl, List.countP_append, List.countP_singleton]
          have CB : Hid ((U.take y).countP (fun u => u.2 == c) ≤ 80) := by
            show _ ≤ _
            have := List.countP_le_length (p := fun u : Nat × Nat => u.2 == c) (l := U.take y)
            rw [List.length_take] at this
            omega
          have KF := Lib.hid (fun W (hW : Chg (fun _ => False) wr W) => K.out.skip (hW.mono fun _ _ q => q.elim))
          have CLF := Lib.hid (fun W (hW : Chg (fun _ => False) wr W) => (KF.out W hW).class ym)
          have IFF := Lib.hid (fun W (hW : Chg (fun _ => False) wr W) => (KF.out W hW).isfree ym)
          have RF := Lib.hid (fun W (hW : Chg (fun _ => False) wr W) => R.out.fresh hW)
          generalize (U[y]).1 = y1 at c9 CLF IFF
          generalize (U[y]).2 = yd at c10 CLF CP
          generalize hcp : (U.take y).countP (fun u => u.2 == c) = n at CP CB ⊢
          have n80 : n ≤ 80 := CB.out
          have wn : IntKind.i64.wrap ((n : Int) + 1) = (n : Int) + 1 := IntWalk.i64_in _ (by omega)
          by_cases e3 : yd = c
          · subst e3
            have t1 : ((yd : Int) == (yd : Int)) = true := beq_self_eq_true _
            rw [if_pos (beq_self_eq_true _)] at CP
            go_wp2_with fail
            go_region_held3 (fun w' => w'.cell? ⟨b, 1, none⟩ = some (.pointer (some ⟨h.b, 0, none⟩)) ∧ w'.cell? ⟨g9, y, none⟩ = some (.int .i64 y1)) (go_keep)
              (first
                | (go_at_call 19; refine (CLF.out _ (Chg.drew _ wr)).mono ?_; rintro e w5 ⟨rfl, c5⟩; have d1 := c5.cell c1 id; have d9 := c5.cell c9 id; have C5 : Hid (Chg (fun _ => False) wr w5) := (Chg.drew _ wr).trans c5; clear c5; skip))
            clear c1 c9 c10 CLF
            go_wp2_with fail
            go_region_held3 (fun w' => w'.cell? ⟨b, 1, none⟩ = some (.pointer (some ⟨h.b, 0, none⟩)) ∧ w'.cell? ⟨g9, y, none⟩ = some (.int .i64 y1)) (go_keep)
              (first
                | (go_at_call 20; refine (IFF.out _ (C5.out.trans (Chg.drew _ w5))).mono ?_; rintro e w6 ⟨rfl, c6⟩; have dd1 := ((Chg.drew (fun _ => False) w5).trans c6).cell d1 id; have dd9 := ((Chg.drew (fun _ => False) w5).trans c6).cell d9 id; have C6 : Hid (Chg (fun _ => False) wr w6) := C5.out.trans ((Chg.drew _ w5).trans c6); clear c6; skip))
            have K6 := Lib.hid (KF.out _ C6.out)
            have R6 := Lib.hid (RF.out _ C6.out)
            clear IFF d1 d9 dd1 dd9 KF RF
            go_wp2_with fail
            go_roundg (un - (y + 1))
            case measure => have := hgy.out; omega
            case rel => exact ⟨y + 1, by rw [CP.out, Int.natCast_add]; rfl, rfl, rfl, by omega, K6.out, R6.out⟩
          · have t1 : ((yd : Int) == (c : Int)) = false := by rw [beq_eq_false_iff_ne]; omega
            rw [if_neg (by rw [beq_iff_eq]; exact e3)] at CP
            go_wp2_with fail
            go_roundg (un - (y + 1))
            case measure => have := hgy.out; omega
            case rel => exact ⟨y + 1, by rw [CP.out]; rfl, rfl, rfl, by omega, K.out, R.out⟩
        · have h4' : ¬ (y : Int) < (un : Int) := by omega
          have yn : U.take y = U := by rw [List.take_of_length_le (by have := hun.out; omega)]
          rw [yn]
          obtain ⟨n, m, e1, n1, m1, CN⟩ := K.out.counts h3
          have CB : U.countP (fun u => u.2 == c) ≤ 80 := by have := List.countP_le_length (p := fun u : Nat × Nat => u.2 == c) (l := U); have := hun.out; omega
          generalize U.countP (fun u => u.2 == c) = cu at e1 CN CB ⊢
          have c1 := K.out.f1
          have t3c := t3_fact7 c h3
          have tc := TB.out wr K.out.bx.2.1 c h3
          replace CN := Lib.hid CN
          go_wp2_with fail
          unfold CnEnd at CN
          refine CN.out.mono ?_
          rintro e w5 ⟨rfl, c5⟩
          replace tc := c5.cell tc id
          have K5 := Lib.hid (K.out.skip (c5.mono fun _ _ q => q.elim))
          have R5 := Lib.hid (R.out.fresh c5)
          clear c5 CN c1 K R
          go_wp2_with fail
          go_roundg (3 - (c + 1))
          case measure => have := hgc.out; omega
          case rel => exact ⟨c + 1, rfl, rfl, by omega, K5.out, R5.out⟩
    · have h3' : ¬ (c : Int) < 3 := by omega
      go_wp2_with fail
      go_ret
      exact ⟨rfl, LO.out _ K.out.bx.2.1⟩
end Go.Proofs.Ytmffdlebahdihaa.Slab

