/- A string's bytes as numbers; []byte(s). No program in sight. -/
import Derived.Test.YtolpjgpimholcaaStr
import Derived.Test.YtolpjgpimholcaaApp
import Derived.Lib.ConvBytes
namespace Go.Proofs.Ytolpjgpimholcaa.Mem
open Go Go.RowKit
set_option linter.unusedVariables false
/-- a string's bytes -/
def bs (s : ByteArray) : List Int := s.data.toList.map fun b => (b.toNat : Int)
theorem bs_length (s : ByteArray) : (bs s).length = s.size := by
  unfold bs
  rw [List.length_map, Array.length_toList]; rfl
theorem bs_bytes (s : ByteArray) : ∀ x ∈ bs s, 0 ≤ x ∧ x ≤ 255 := fun x hx => by
  unfold bs at hx
  obtain ⟨b, _, rfl⟩ := List.mem_map.1 hx
  have := b.toNat_lt
  omega
theorem str_bs (s : ByteArray) : strOfNums (bs s) = s := by
  have : ((bs s).map fun n => UInt8.ofNat n.toNat) = s.data.toList := by
    unfold bs
    rw [List.map_map]
    conv => rhs; rw [← List.map_id s.data.toList]
    apply List.map_congr_left
    intro b _
    simp [Function.comp]
  unfold strOfNums
  rw [this]
theorem bs_str {l : List Int} (h : ∀ x ∈ l, 0 ≤ x ∧ x ≤ 255) : bs (strOfNums l) = l := strOfNums_inj (bs_bytes _) h (str_bs _)
theorem bs_getD (s : ByteArray) (j : Nat) (hj : j < s.size) : (bs s).getD j 0 = ((s.data.toList.getD j 0).toNat : Int) := by
  have hj' : j < s.data.toList.length := by rw [Array.length_toList]; exact hj
  unfold bs
  rw [List.getD_eq_getElem?_getD, List.getElem?_map, List.getD_eq_getElem?_getD, List.getElem?_eq_getElem hj']
  rfl
/-- []byte(s): the world behind it, its row -/
theorem chg_bytes (w : World) (e : TypeId) (s : ByteArray) : Chg (fun _ => False) w (Lib.bytesWorld w e s) :=
  ⟨rfl, rfl, rfl, by rw [Lib.bytesWorld_size]; omega, fun b hb _ => Lib.bytesWorld_at_old w e s b hb⟩
theorem sl_bytes (w : World) (e : TypeId) (s : ByteArray) : Sl (Lib.bytesWorld w e s) .u8 (some ⟨w.heap.size, 0, none⟩) (bs s) := fun i hi => by
  rw [bs_length] at hi
  refine ⟨_, rfl, ?_⟩
  rw [add_plain, Nat.zero_add, Lib.bytesWorld_cell w e s i hi, bs_getD s i hi]
theorem conv_bs {P : Program} {w : World} {src dst e : TypeId} {A : Option Addr} {c n : Nat} (s : ByteArray) (hn : n = s.size) (hs : P.underlying src = some (.slice e)) (he : P.underlying e = some (.int .u8)) (hd : P.underlying dst = some .string) (h : Sl w .u8 A (bs s)) :
    (Go.convert src dst (.slice A n c)).run P w = .ok (.string s) w := by
  have := conv_sl (c := c) hs he hd h
  rw [bs_length, str_bs] at this
  rw [hn]
  exact this
end Go.Proofs.Ytolpjgpimholcaa.Mem
