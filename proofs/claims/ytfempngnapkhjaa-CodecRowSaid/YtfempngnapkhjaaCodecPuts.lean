/- The walk of the law CodecPuts: it returns true at any bytes, place, width and number, and what was there stays. -/
import Derived.Test.YtfempngnapkhjaaCodecOwn
import Derived.OpenShut
namespace Go.Proofs.Ytfempngnapkhjaa.Codec
open Go.RowKit Go.Proofs.Ytfempngnapkhjaa.Mem Go.Proofs.Ytfempngnapkhjaa.CodecPure
set_option linter.unusedVariables false

theorem bytes_of_row {w : World} {A : Option Addr} {c : Nat} {l : List Int} (h : RowOf w .u8 A c l 1) : Bytes l := fun x hx => bounds_u8 (h.wf x hx)
theorem puts_walk (A0 : Option Addr) (c0 : Nat) (l0 : List Int) (at_ width v : Int) (w : World) (h0 : RowOf w .u8 A0 c0 l0 1) (w1 : (Lit.int .i64 at_).wf = true) (w2 : (Lit.int .i64 width).wf = true) (w3 : (Lit.int .u64 v).wf = true) :
    Calls Try.prog 3 #[.slice A0 l0.length c0, .int .i64 at_, .int .i64 width, .int .u64 v] w fun e w' => e = .returned (.bool true) ∧ Below w.heap.size w w' := by
  by_cases hl : l0.length > 10000
  · clear h0 w1 w2 w3
    go_enter Try.func3, Try.ntmps3
    go_wp2
    go_ret
    exact ⟨rfl, Below.refl _ _⟩
  · have hm : l0.length ≤ 10000 := by omega
    have hb : Hid (Bytes l0) := bytes_of_row h0
    have hs : Hid (Sl w .u8 A0 l0) := h0.sl
    have hnil : Hid (A0 = none → c0 = 0) := fun e => (h0.nil e).2
    have hx : Hid (-9223372036854775808 ≤ at_ ∧ at_ ≤ 9223372036854775807) := bounds_i64 w1
    have hv := bounds_u64 w3
    have hv2 : Hid (0 ≤ v ∧ v < 18446744073709551616) := ⟨hv.1, by have := hv.2; omega⟩
    obtain ⟨X, eX⟩ : ∃ X, (putC l0 at_ width v).1 = X := ⟨_, rfl⟩
    obtain ⟨E, eE⟩ : ∃ E, (putC l0 at_ width v).2 = E := ⟨_, rfl⟩
    obtain ⟨G, eG⟩ : ∃ G, (getC X at_ width).1 = G := ⟨_, rfl⟩
    obtain ⟨F, eF⟩ : ∃ F, (getC X at_ width).2 = F := ⟨_, rfl⟩
    have hbX : Hid (Bytes X) := by rw [← eX]; exact bytes_putC l0 at_ width v hb.out
    have hlX : Hid (X.length = l0.length) := by rw [← eX]; exact putC_length l0 at_ width v
    have c1 : Hid (∀ A c base W, Own W base 5 .u8 (.slice A l0.length c) l0 → Calls Try.prog 9 #[.slice A l0.length c, .int .i64 at_, .int .i64 width, .int .u64 v] W (Wr W base A l0.length c X E)) := fun A c base W ho => by
      have := put_own A c base l0 at_ width v W ho (by omega) hx.out hv2.out.1 hv2.out.2
      rw [eX, eE] at this
      exact this
    have c2 : Hid (∀ W, Sl W .u8 A0 l0 → Calls Try.prog 10 #[.slice A0 l0.length c0, .int .i64 at_, .int .i64 width, .int .u64 v] W (Bts W X E)) := fun W h => by
      have := refput_calls A0 c0 l0 at_ width v W h (by omega) hnil.out hx.out hv2.out.1 hv2.out.2
      rw [eX, eE] at this
      exact this
    have c3 : Hid (∀ A c W, Own W w.heap.size 5 .u8 (.slice A l0.length c) X → Calls Try.prog 11 #[.slice A l0.length c, .int .i64 at_, .int .i64 width] W fun e w' => e = .returned (.tuple #[.int .u64 G, .int .i64 F]) ∧ W = w') := fun A c W h => by
      have lx := hlX.out
      have hc : X.length ≤ c ∧ c ≤ 9223372036854775807 := by
        rcases h.2 with ⟨e1, e2⟩ | ⟨g, cap, cur, e1, _, _, e2, e3, _⟩
        · injection e1 with _ _ e4
          omega
        · injection e1 with _ _ e4
          subst e4
          exact ⟨e2, e3⟩
      have := get_calls A X c at_ width W h.sl hbX.out hc.1 hc.2 hx.out
      rw [eG, eF, lx] at this
      exact this
    have c4 : Hid (∀ A c n W, n = X.length → Sl W .u8 A X → Calls Try.prog 12 #[.slice A n c, .int .i64 at_, .int .i64 width] W fun e w' => e = .returned (.tuple #[.int .u64 G, .int .i64 F]) ∧ W = w') := fun A c n W hn h => by
      subst hn
      have lx := hlX.out
      have := refget_calls A X c at_ width W h hbX.out (by omega) hx.out
      rw [eG, eF] at this
      exact this
    clear h0 w1 w2 w3 hl hv eX eE eG eF hx hv2
    go_enter Try.func3, Try.ntmps3
    go_wp2_with (at_builtin; refine wpList_app rfl _ _ 22 rfl w.heap.size 5 .u8 1 Try.underlying22 infoByte _ [] rfl (Own.lit w 5 .u8 [] (Nat.zero_le _)) A0 _ c0 l0 rfl rfl (hs.out.later (Chg.alloc _ w _) (Nat.le_refl _)) hnil.out ?h63 ?hby ?hba ?_; (case h63 => unfold maxLen; simp; omega); (case hby => simp; omega); (case hba => simp); intro A' c' n' w3 hn' hown hchg; obtain rfl : n' = l0.length := (by simpa using hn'); have O3 : Hid (Own w3 w.heap.size 5 .u8 (.slice A' l0.length c') l0) := hown; have C3 : Hid (Chg (fun b => w.heap.size ≤ b) w w3) := (Chg.alloc _ w _).trans hchg; clear hn' hown hchg)
    refine (c1.out A' c' w.heap.size w3 O3.out).mono ?_
    rintro e w4 ⟨rfl, ho4, hc4⟩
    have O4 := Lib.hid ho4
    have C4 : Hid (Chg (fun b => w.heap.size ≤ b) w w4) := C3.out.trans hc4
    have S4 : Hid (Sl w4 .u8 A0 l0) := hs.out.later C4.out (Nat.le_refl _)
    clear ho4 hc4
    go_wp2_with fail
    refine (c2.out w4 S4.out).mono ?_
    intro e w5 hb5
    obtain ⟨A2, c2', n2, hn2, he, hs5, hc5, hz5⟩ := hb5
    subst he
    have N2 := Lib.hid hn2
    have S5 := Lib.hid hs5
    have O5 : Hid (Own w5 w.heap.size 5 .u8 (.slice A' l0.length c') X) := O4.out.chg hc5 fun g hg h => by
      have := (World.ownsRow.lt O4.out g hg).2
      omega
    have C5 : Hid (Chg (fun b => w.heap.size ≤ b) w w5) := C4.out.trans (hc5.mono fun i hi h => Nat.le_trans C4.out.size h)
    clear hn2 hs5 hc5 hz5
    have k1 : (Go.convert 22 9 (.slice A' l0.length c')).run Try.prog w5 = .ok (.string (strOfNums X)) w5 := by
      have := conv_sl (c := c') Try.underlying22 Try.underlying5 Try.underlying9 O5.out.sl
      rw [hlX.out] at this
      exact this
    have k2 : (Go.convert 22 9 (.slice A2 n2 c2')).run Try.prog w5 = .ok (.string (strOfNums X)) w5 := by
      have := conv_sl (c := c2') Try.underlying22 Try.underlying5 Try.underlying9 S5.out
      rw [← N2.out] at this
      exact this
    go_wp2_with (first | (go_at_call 11; refine (c3.out A' c' w5 O5.out).mono ?_; rintro e w' ⟨rfl, rfl⟩) | (go_at_call 12; refine (c4.out A2 c2' n2 w5 N2.out S5.out).mono ?_; rintro e w' ⟨rfl, rfl⟩))
    go_ret
    exact ⟨rfl, C5.out.below (Nat.le_refl _) fun b h => h⟩

end Go.Proofs.Ytfempngnapkhjaa.Codec
