/- The walk of chapter 08's Made, without bytes: both arenas, all pages but one granted. -/
import Derived.Test.YtolpjgpimholcaaArenaTwo
import Derived.Test.YtolpjgpimholcaaArenaEnds
import Derived.Deep.CutBlock
namespace Go.Proofs.Ytolpjgpimholcaa.Arena
open Go Go.RowKit Go.Proofs.Ytolpjgpimholcaa.Mem Go.Proofs.Ytolpjgpimholcaa.CodecPure Go.Proofs.Ytolpjgpimholcaa.ArenaPure Go.Proofs.Ytolpjgpimholcaa.Codec
set_option linter.unusedVariables false
set_option maxRecDepth 100000
theorem Two.began {w w1 w2 : World} {a : Ar} {r : Ra} {s : St} (hl : Lies w1 a s) (hc : Chg (fun _ => False) w w1) (h1 : w.heap.size ≤ a.g) (h2 : w.heap.size ≤ a.ps) (h3 : ∀ b ∈ a.pb, w.heap.size ≤ b) (h4 : ∀ b ∈ a.pb, b < w1.heap.size) (h5 : a.ps < w1.heap.size)
    (hr : RLies w2 r s) (hc2 : Chg (fun _ => False) w1 w2) (g1 : w1.heap.size ≤ r.g) (g2 : w1.heap.size ≤ r.o) (g3 : w1.heap.size ≤ r.b) : Two w.heap.size w w2 a r s s := by
  have z := hc.size
  have zg := blk_lt hl.head
  have far : ∀ x, w1.heap.size ≤ x → x ≠ a.g ∧ x ≠ a.ps ∧ x ∉ a.pb := fun x hx => ⟨by omega, by omega, fun hb => by have := h4 x hb; omega⟩
  refine ⟨⟨hl.chg hc2 id id fun _ _ => id, (hc.trans hc2).mono fun _ _ h => h.elim, h1, h2, h3⟩, hr, ⟨by omega, by omega, by omega⟩, fun x hx => ?_⟩
  rcases hx with rfl | rfl | rfl
  · exact far _ g1
  · exact far _ g2
  · exact far _ g3
/-- after k grants of class 1 -/
def granting (s : St) : Nat → St
  | 0 => s
  | k + 1 => (ArenaPure.grant (granting s k) 1).1
/-- Made's arena of m pages -/
def madeS (m : Nat) : St := granting (new m) (m - 1)
set_option maxHeartbeats 4000000 in
theorem made_calls (n : Int) (w : World) (q : Nat) (hq : q < 6) (q1 : (IntKind.u64.wrap n).tmod 6 = q) (q2 : IntKind.u64.wrap n % 6 = q) :
    Calls Try.prog 16 #[(.int .i64 n), .slice none 0 0] w fun e w' => ∃ a r, e = .returned (.tuple #[(.pointer (some ⟨a.g, 0, none⟩)), (.pointer (some ⟨r.g, 0, none⟩)), .bool true]) ∧ Two w.heap.size w w' a r (madeS (2 + q)) (madeS (2 + q)) := by
  obtain ⟨m, hm⟩ : ∃ m, 2 + q = m := ⟨_, rfl⟩
  have e0 : ((2 : Int) + (q : Int)) = m := by omega
  have hm8 : m < 8 := by omega
  have hm2 : 2 ≤ m := by omega
  have em : (m : Int).toNat = m := by omega
  rw [hm]
  clear hm
  go_enter Try.func16, Try.ntmps16
  go_wp2_with fail
  refine (new_calls m w).mono ?_
  rintro e wa hn
  rcases hn with ⟨hq, _⟩ | ⟨_, _, a, rfl, hl, hc, k1, k2, k3, k4, k5⟩
  · omega
  rw [em] at hl
  have K := Lib.hid (fun (w2 : World) (r : Ra) (hr : RLies w2 r (new m)) (hc2 : Chg (fun _ => False) wa w2) (g1 : wa.heap.size ≤ r.g) (g2 : wa.heap.size ≤ r.o) (g3 : wa.heap.size ≤ r.b) => Two.began hl hc k1 k2 k3 k4 k5 hr hc2 g1 g2 g3)
  clear hl hc k1 k2 k3 k4 k5
  go_wp2_with fail
  refine (refnew_calls m wa).mono ?_
  rintro e wb hn
  rcases hn with ⟨hq, _⟩ | ⟨_, _, r, rfl, hr, hc2, g1, g2, g3⟩
  · omega
  rw [em] at hr
  have H0 := Lib.hid (K.out wb r hr hc2 g1 g2 g3)
  clear hr hc2 g1 g2 g3 K q1 q2 em
  go_wp2_with fail
  go_loopg [11] 10 (fun g i wr => ∃ k : Nat, i = .int .i64 k ∧ g = 10 - k ∧ k + 1 ≤ m ∧ Hid (Two w.heap.size w wr a r (granting (new m) k) (granting (new m) k)))
  case atStart => exact ⟨0, rfl, rfl, by omega, H0.out⟩
  case round =>
    obtain ⟨k, rfl, hg, hk, H5⟩ := hrel
    obtain ⟨wo, rfl⟩ : ∃ wo : World, wo = wr := ⟨_, rfl⟩
    have hg2 := Lib.hid hg
    clear hg
    by_cases hlt : k + 1 < m
    · have t1 : ((k : Int) + 1 < m) := by omega
      have HS : Hid (Hid (∀ W, Two w.heap.size w W a r (granting (new m) (k + 1)) (granting (new m) (k + 1)) → Two w.heap.size w W a r (ArenaPure.grant (granting (new m) k) 1).1 (ArenaPure.grant (granting (new m) k) 1).1)) := fun W h => h
      have e1 : granting (new m) (k + 1) = (ArenaPure.grant (granting (new m) k) 1).1 := rfl
      replace e1 := Lib.hid e1
      generalize granting (new m) k = s at H5 e1
      have dK0 := H5.out.grant 1
      have dK1 := Lib.hid dK0
      clear dK0
      go_wp2_with fail
      refine dK1.out.mono ?_
      rintro e w5 ⟨rfl, hnew, hc⟩
      have H6 := Lib.hid hnew
      clear hnew dK1 hc
      have dK0 := H6.out.rgrant 1
      have dK1 := Lib.hid dK0
      clear dK0
      go_wp2_with fail
      refine dK1.out.mono ?_
      rintro e w6 ⟨rfl, hnew, hc⟩
      have H7 := Lib.hid hnew
      clear hnew dK1 hc
      generalize (ArenaPure.grant s 1).2.1 = x at *
      generalize (ArenaPure.grant s 1).2.2 = y at *
      go_wp2_with fail
      go_roundg (10 - (k + 1))
      case measure => have := hg2.out; omega
      case rel => exact ⟨k + 1, rfl, rfl, by omega, by rw [e1.out]; exact H7.out⟩
    · have t1 : ¬ ((k : Int) + 1 < m) := by omega
      have e1 : k = m - 1 := by omega
      subst e1
      have HF : Hid (Two w.heap.size w wo a r (madeS m) (madeS m)) := H5.out
      clear H5 H0
      go_wp2_with fail
      go_loopg [16] 1 (fun g i wr => i = .int .i64 0 ∧ g = 1 ∧ wr = wo)
      case atStart => exact ⟨rfl, rfl, rfl⟩
      case round =>
        obtain ⟨rfl, hg, rfl⟩ := hrel
        clear hg hg2
        go_wp2_with fail
        go_ret3
        exact ⟨a, r, rfl, HF.out⟩
end Go.Proofs.Ytolpjgpimholcaa.Arena
