import Derived.Test.YtmffdlebahdihaaGy
import Derived.Deep.CutRange
import Derived.Deep.CutBlock
/- SlabsApart: an operation other than a free. -/
namespace Go.Proofs.Ytmffdlebahdihaa.Slab
open Go Go.RowKit Go.Shelf Go.Proofs.Ytmffdlebahdihaa.Mem Go.Proofs.Ytmffdlebahdihaa.CodecPure Go.Proofs.Ytmffdlebahdihaa.ArenaPure Go.Proofs.Ytmffdlebahdihaa.Codec Go.Proofs.Ytmffdlebahdihaa.Arena Go.Proofs.Ytmffdlebahdihaa.Item
set_option linter.unusedVariables false
set_option maxRecDepth 100000
variable {U : List (Nat × Nat)}
set_option maxHeartbeats 16000000 in
theorem apart_r1 : apart_parts.1 := by
  intro _
  unhygienic intros
  obtain ⟨rfl, rfl, ew⟩ := hcut
  obtain rfl : w5 = _ := ew.out.symm
  have hs := Lib.hid K5.out.bx.2.2
  by_cases e2 : kind = 2
  · have t2 : (kind == 2) = true := by rw [e2]; rfl
    have FR := Lib.hid ((K5.out.skip (Chg.drew _ w5)).release x1)
    have KD : Hid (Chg (S7 a h) w5 (World.drew w5)) := Chg.drew _ _
    clear e2
    go_wp2_with fail
    go_region_held3 (fun w' => w'.cell? ⟨b, 1, none⟩ = some (.pointer (some ⟨h.b, 0, none⟩)) ∧ w'.cell? ⟨ob, 1, none⟩ = some (.int .i64 x1)) (go_keep)
      (first
        | (go_at_call 15; refine FR.out.mono ?_; rintro e w6 ⟨⟨v6, rfl⟩, k6, c6⟩; have d1 := k6.f1; have dn : w6.cell? ⟨ob, 1, none⟩ = some (.int .i64 x1) := ((KD.out.trans c6).cell cN oN.out.1); have R6 := Lib.hid (R5.out.keep hs.out (KD.out.trans c6)); have K6 := Lib.hid k6; clear k6 c6; skip))
    go_wp2_with fail
    go_roundg (80 - (k + 1))
    case measure => have := hg.out; omega
    case rel => exact ⟨k + 1, U, rfl, rfl, by omega, K6.out, R6.out, by have := UL.out; have := hun.out; show U.length ≤ k + 1; omega⟩
  · have t2 : (kind == 2) = false := by rw [beq_eq_false_iff_ne]; exact e2
    clear e2
    obtain ⟨cc, hcc, q1, q2⟩ := small x1 3 (by decide)
    replace q1 : (IntKind.u64.wrap x1).tmod 3 = cc := q1
    replace q2 : IntKind.u64.wrap x1 % 3 = cc := q2
    have cc3 : (cc : Int) < 3 := by omega
    have AL := Lib.hid (K5.out.alloc hcc)
    go_wp2_with fail
    clear cK cN
    refine AL.out.mono ?_
    rintro e w6 (⟨x, rfl, K6, c6⟩ | ⟨rfl, K6, c6, ⟨m, pp, CT⟩, FC⟩)
    · have R6 := Lib.hid (R5.out.keep hs.out c6)
      have tc := TB.out w6 K6.bx.2.1 cc hcc
      have AP := Lib.hid (fun (y : Nat × Nat) (hy : y ∈ U) => K6.apart (u := (x, cc)) hy)
      have xl : x < 32768 := (K6.lt (u := (x, cc)) (by simp)).2
      have TBd := Lib.hid (fun d (hd : d < 3) => TB.out w6 K6.bx.2.1 d hd)
      have DLT := Lib.hid (fun (y : Nat × Nat) (hy : y ∈ U) => K6.lt (u := y) (by simp [hy]))
      have t3c := t3_fact7 cc hcc
      replace K6 := Lib.hid K6
      clear AL c6 c1 K5 R5 q1 q2
      go_wp2_with fail
      go_loopg [20] un (fun m i wx => ∃ (y : Nat), i = .int .i64 y ∧ m = un - y ∧ y ≤ un ∧ Hid (∃ q, wx = w6.drewN q))
      case atStart => exact ⟨0, rfl, rfl, by omega, 0, rfl⟩
      case round =>
        obtain ⟨y, rfl, hgy, hy, EW⟩ := hrel
        replace hgy := Lib.hid hgy
        obtain ⟨q0, rfl⟩ := EW.out
        by_cases h3 : y < un
        · have h3' : (y : Int) < (un : Int) := by omega
          have yl : y < U.length := by rw [hun.out]; exact h3
          have ym : U[y] ∈ U := List.getElem_mem yl
          obtain ⟨g9, cs9, eA, -⟩ := R6.out.o9.blk (by rw [u9_len]; omega)
          obtain ⟨g10, cs10, eB, -⟩ := R6.out.o10.blk (by rw [u10_len]; omega)
          subst eA
          subst eB
          have c9 := (R6.out.o9.cellAt y (by rw [u9_len]; exact yl)).1
          have c10 := (R6.out.o10.cellAt y (by rw [u10_len]; exact yl)).1
          rw [u9_at yl] at c9
          rw [u10_at yl] at c10
          have ap := AP.out _ ym
          have dl := DLT.out _ ym
          have td := TBd.out _ dl.1
          have t3d := t3_fact7 _ dl.1
          replace ap : x + tz T3 cc ≤ (U[y]).1 ∨ (U[y]).1 + tz T3 (U[y]).2 ≤ x := ap
          generalize (U[y]).1 = y1 at c9 ap dl
          generalize (U[y]).2 = yd at c10 ap dl td t3d
          have dl3 : (yd : Int) < 3 := by omega
          generalize hz1 : tz T3 yd = z1 at td ap t3d
          generalize hz2 : tz T3 cc = z2 at tc ap t3c
          have w1' : IntKind.i64.wrap ((y1 : Int) + (z1 : Int)) = (y1 : Int) + (z1 : Int) := IntWalk.i64_in _ (by omega)
          have w2' : IntKind.i64.wrap ((x : Int) + (z2 : Int)) = (x : Int) + (z2 : Int) := IntWalk.i64_in _ (by omega)
          by_cases hlt : x < y1 + z1
          · have l1 : decide ((x : Int) < (y1 : Int) + (z1 : Int)) = true := decide_eq_true (by omega)
            have l2 : decide ((y1 : Int) < (x : Int) + (z2 : Int)) = false := decide_eq_false (by omega)
            clear ym AP hz1 hz2
            go_wp2_with fail
            go_quiet (fail)
            go_wp2_with fail
            go_roundg (un - (y + 1))
            case measure => have := hgy.out; omega
            case rel => exact ⟨y + 1, rfl, rfl, by omega, q0 + nq, by simp [World.drewN]⟩
          · have l1 : decide ((x : Int) < (y1 : Int) + (z1 : Int)) = false := decide_eq_false (by omega)
            clear ym AP hz1 hz2
            go_wp2_with fail
            go_quiet (fail)
            go_wp2_with fail
            go_roundg (un - (y + 1))
            case measure => have := hgy.out; omega
            case rel => exact ⟨y + 1, rfl, rfl, by omega, q0 + nq, by simp [World.drewN]⟩
        · have h3' : ¬ (y : Int) < (un : Int) := by omega
          have R7 := Lib.hid (R6.out.fresh (Chg.drewN _ w6 q0))
          have K7 := Lib.hid (K6.out.skip (Chg.drewN _ w6 q0))
          have sz7 := Lib.hid K7.out.bx.1
          clear EW R6 K6 AP TBd DLT tc
          generalize w6.drewN q0 = w7 at R7 K7 sz7 ⊢
          have l9 : Hid ((u9 U).length = un ∧ (u10 U).length = un) := ⟨by rw [u9_len]; exact hun.out, by rw [u10_len]; exact hun.out⟩
          go_wp2_with (first
            | (at_builtin; refine wpList_app_at rfl _ _ 25 rfl base 3 .i64 8 Try.underlying25 infoInt (.slice AU un cU) (u9 U) rfl (R7.out.o9.chg (Chg.alloc (fun _ => False) w7 (.cells #[.int .i64 (x : Int)] 3)) (fun _ _ => id)) (some ⟨w7.heap.size, 0, none⟩) 1 1 [(x : Int)] rfl rfl (sl_lit w7 .i64 [(x : Int)] 3 (0, 0)) (fun h => by cases h) ?h63 ?hby ?hba ?_; (case h63 => rw [l9.out.1]; unfold maxLen; omega); (case hby => rw [l9.out.1]; omega); (case hba => have := sz7.out; rw [World.size_alloc]; omega); intro A16 c16 n16 w16 hn16 ho16 hc16 hat16; have R16 := Lib.hid (R7.out.app9 (x := x) (cc := cc) hun.out hn16 ho16 hc16 hat16); have C16 : Hid (Chg (fun y => base ≤ y) w7 w16) := ((Chg.alloc _ _ _).trans (hc16.mono fun y _ e => (World.ownsRow.lt R7.out.o9 y e).1)); clear hn16 ho16 hc16 hat16)
            | (at_builtin; refine wpList_app_at rfl _ _ 25 rfl base 3 .i64 8 Try.underlying25 infoInt (.slice AO un cO) (u10 U) rfl (R16.out.o10.chg (Chg.alloc (fun _ => False) w16 (.cells #[.int .i64 (cc : Int)] 3)) (fun _ _ => id)) (some ⟨w16.heap.size, 0, none⟩) 1 1 [(cc : Int)] rfl rfl (sl_lit w16 .i64 [(cc : Int)] 3 (0, 0)) (fun h => by cases h) ?h63 ?hby ?hba ?_; (case h63 => rw [l9.out.2]; unfold maxLen; omega); (case hby => rw [l9.out.2]; omega); (case hba => have := sz7.out; have := C16.out.size; rw [World.size_alloc]; omega); intro A18 c18 n18 w18 hn18 ho18 hc18 hat18; have R18 := Lib.hid (R16.out.app10 (x := x) (cc := cc) ho18 hc18 hat18); have C18 : Hid (Chg (fun y => base ≤ y) w7 w18) := ((C16.out.trans (Chg.alloc _ _ _)).trans (hc18.mono fun y _ e => (World.ownsRow.lt R16.out.o10 y e).1)); clear hn18 ho18 hc18 hat18))
          go_roundg (80 - (k + 1))
          case measure => have := hg.out; omega
          case rel => exact ⟨k + 1, U ++ [(x, cc)], rfl, rfl, by omega, K7.out.skip C18.out, R18.out, by rw [List.length_append]; have := UL.out; have := hun.out; show U.length + 1 ≤ k + 1; omega⟩
    · have R6 := Lib.hid (R5.out.keep hs.out c6)
      have c1 := K6.f1
      replace CT := Lib.hid CT
      have K7 := Lib.hid (fun W (hc : Chg (fun _ => False) w6 W) => (K6.skip (hc.mono fun _ _ q => q.elim) : AI wo.heap.size base wo W a h b rg r7 U))
      have FC := Lib.hid FC
      clear AL c6 K5 R5 q1 q2 K6
      go_wp2_with fail
      unfold CnEnd at CT
      refine CT.out.mono ?_
      rintro e w7 ⟨rfl, c7⟩
      have k7 := K7.out w7 c7
      have c0 := k7.f0
      have F7 := Lib.hid (FC.out w7 c7)
      have R7 := Lib.hid (R6.out.fresh c7)
      replace k7 := Lib.hid k7
      clear c7 c1 CT FC K7 R6
      go_wp2_with fail
      refine F7.out.mono ?_
      rintro e w8 ⟨rfl, rfl⟩
      clear F7
      go_wp2_with fail
      go_roundg (80 - (k + 1))
      case measure => have := hg.out; omega
      case rel => exact ⟨k + 1, U, rfl, rfl, by omega, k7.out, R7.out, by have := UL.out; have := hun.out; show U.length ≤ k + 1; omega⟩
end Go.Proofs.Ytmffdlebahdihaa.Slab

