/- The walk of the law ItemNeeds: it returns true at any table, key and value, and what was there stays. -/
import Derived.Test.YtfblicochofkiaaNeed3
import Derived.Test.YtfblicochofkiaaApp
import Derived.OpenShut
namespace Go.Proofs.Ytfblicochofkiaa.Need
open Go.RowKit Go.Proofs.Ytfblicochofkiaa.Mem Go.Proofs.Ytfblicochofkiaa.NeedPure
set_option linter.unusedVariables false

theorem infoInt : (Try.prog.info? 3).map (fun i => (i.zero, i.size, i.bytes)) = some (some (.int .i64 0), 1, 8) := by kernel_rfl
theorem needs_walk (A0 : Option Addr) (c0 : Nat) (l0 : List Int) (key value : Int) (w : World) (h0 : RowOf w .i64 A0 c0 l0 8) (w1 : (Lit.int .i64 key).wf = true) (w2 : (Lit.int .i64 value).wf = true) :
    Calls Try.prog 3 #[.slice A0 l0.length c0, .int .i64 key, .int .i64 value] w fun e w' => e = .returned (.bool true) ∧ Below w.heap.size w w' := by
  by_cases hl : l0.length > 100
  · clear h0 w1 w2
    go_enter Try.func3, Try.ntmps3
    go_wp2
    go_ret
    exact ⟨rfl, Below.refl _ _⟩
  · have hm : l0.length ≤ 100 := by omega
    have hw : Hid (∀ x ∈ l0, -9223372036854775808 ≤ x ∧ x ≤ 9223372036854775807) := fun x hx => bounds_i64 (h0.wf x hx)
    have hs : Hid (Sl w .i64 A0 l0) := h0.sl
    have hnil : Hid (A0 = none → c0 = 0) := fun e => (h0.nil e).2
    clear h0 w1 w2 hl
    go_enter Try.func3, Try.ntmps3
    go_wp2_with (at_builtin; refine wpList_app rfl _ _ 22 rfl w.heap.size 3 .i64 8 Try.underlying22 infoInt _ [] rfl (Own.lit w 3 .i64 [] (Nat.zero_le _)) A0 _ c0 l0 rfl rfl (hs.out.later (Chg.alloc _ w _) (Nat.le_refl _)) hnil.out ?h63 ?hby ?hba ?_; (case h63 => unfold maxLen; simp; omega); (case hby => simp; omega); (case hba => simp); intro A' c' n' w3 hn' hown hchg; obtain rfl : n' = l0.length := (by simpa using hn'); have hsl : Hid (Sl w3 .i64 A' l0) := hown.sl; have hc1 : Hid (Chg (fun b => w.heap.size ≤ b) w w3) := (Chg.alloc _ w _).trans hchg; clear hn' hown hchg)
    refine (need_calls A' c' l0 key value w3 hsl.out (by omega) hw.out).mono ?_
    rintro e w4 ⟨rfl, hd⟩
    have hs4 : Hid (Sl w4 .i64 A0 l0) := hs.out.later (hc1.out.trans (hd.chg _)) (Nat.le_refl _)
    have hc2 : Hid (Chg (fun b => w.heap.size ≤ b) w w4) := hc1.out.trans (hd.chg _)
    clear hd
    go_wp2_with fail
    refine (refneed_calls A0 c0 l0 key value w4 hs4.out (by omega) hw.out).mono ?_
    rintro e w5 ⟨rfl, hd⟩
    have hc3 : Hid (Chg (fun b => w.heap.size ≤ b) w w5) := hc2.out.trans (hd.chg _)
    clear hd
    go_wp2
    go_ret
    exact ⟨rfl, hc3.out.below (Nat.le_refl _) fun b h => h⟩

end Go.Proofs.Ytfblicochofkiaa.Need
