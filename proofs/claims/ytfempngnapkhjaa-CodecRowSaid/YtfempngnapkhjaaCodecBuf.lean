/- Put, PutPlace, Get and GetPlace of bytes that fill a block: the block behind them. -/
import Derived.Test.YtfempngnapkhjaaCodecOwn
namespace Go.Proofs.Ytfempngnapkhjaa.Codec
open Go.RowKit Go.Proofs.Ytfempngnapkhjaa.Mem Go.Proofs.Ytfempngnapkhjaa.CodecPure
set_option linter.unusedVariables false

/-- block g is just these bytes -/
def Buf (w : World) (g : Nat) (l : List Int) : Prop := w.heap[g]? = some (.cells (nums .u8 l).toArray 5 (0, 0))
theorem Buf.sl {w : World} {g : Nat} {l : List Int} (h : Buf w g l) : Sl w .u8 (some ⟨g, 0, none⟩) l := fun i hi => ⟨_, rfl, by
  rw [add_plain, blk_cell h, List.getElem?_toArray, Nat.zero_add]
  exact nums_get .u8 l i hi⟩
theorem Buf.chg {w w' : World} {g : Nat} {l : List Int} {S : Nat → Prop} (h : Buf w g l) (hc : Chg S w w') (hs : ¬ S g) : Buf w' g l := hc.keep h hs
theorem nums_splice (l bs : List Int) (a : Nat) : splice (nums .u8 l) a (nums .u8 bs) = nums .u8 (splice l a bs) := by
  unfold splice nums
  simp [List.map_take, List.map_drop]
theorem putRow_nums (l : List Int) (at_ width v : Int) : putRow (nums .u8 l) 0 l at_ width v = nums .u8 (putC l at_ width v).1 := by
  unfold putRow putC
  by_cases ht : there l.length at_ width
  · rw [if_pos ht]
    by_cases hv : width < 8 ∧ v / 2 ^ (8 * width.toNat) ≠ 0
    · rw [if_pos hv, if_neg (by simp)]
    · rw [if_neg hv, if_pos rfl, Nat.zero_add, nums_splice]
  · rw [if_neg ht, if_neg (by simp)]
theorem putPlaceRow_nums (l : List Int) (at_ place : Int) : putPlaceRow (nums .u8 l) 0 l at_ place = nums .u8 (putPlaceC l at_ place).1 := by
  by_cases h : place < -1 ∨ place > 2147483647
  · rw [(putPlaceRow_far _ 0 l at_ place h).1, (putPlaceRow_far (nums .u8 l) 0 l at_ place h).2]
  · rw [putPlaceRow_of _ 0 l at_ place h, putPlaceC_of l at_ place h]; exact putRow_nums l at_ 4 _
/-- an error; the block holds these bytes; nothing else has turned -/
def Wb (w : World) (g : Nat) (l : List Int) (err : Int) (e : Ending) (w' : World) : Prop := e = .returned (.int .i64 err) ∧ Buf w' g l ∧ Chg (fun b => b = g) w w'
theorem put_buf (g : Nat) (l : List Int) (at_ width v : Int) (w : World) (h : Buf w g l) (hm : l.length ≤ 1000000000) (hx : -9223372036854775808 ≤ at_ ∧ at_ ≤ 9223372036854775807) (h0 : 0 ≤ v) (h1 : v < 18446744073709551616) :
    Calls Try.prog 9 #[.slice (some ⟨g, 0, none⟩) l.length l.length, .int .i64 at_, .int .i64 width, .int .u64 v] w (Wb w g (putC l at_ width v).1 (putC l at_ width v).2) :=
  (put_calls g 0 l.length 5 (nums .u8 l) l at_ width v w h (by rw [nums_length]; omega) (Nat.le_refl _) (by omega) hx h0 h1).mono fun e w' ⟨he, hw⟩ => by
    subst hw
    refine ⟨he, ?_, Chg.setRow w g _ rfl⟩
    have := setRow_heap w g _ (putRow (nums .u8 l) 0 l at_ width v).toArray _ (0, 0) h
    rw [putRow_nums] at this ⊢
    exact this
theorem putplace_buf (g : Nat) (l : List Int) (at_ place : Int) (w : World) (h : Buf w g l) (hm : l.length ≤ 1000000000) (hx : -9223372036854775808 ≤ at_ ∧ at_ ≤ 9223372036854775807) (hp : -9223372036854775808 ≤ place ∧ place ≤ 9223372036854775807) :
    Calls Try.prog 15 #[.slice (some ⟨g, 0, none⟩) l.length l.length, .int .i64 at_, .int .i64 place] w (Wb w g (putPlaceC l at_ place).1 (putPlaceC l at_ place).2) :=
  (putplace_calls g 0 l.length 5 (nums .u8 l) l at_ place w h (by rw [nums_length]; omega) (Nat.le_refl _) (by omega) hx hp).mono fun e w' ⟨he, hw⟩ => by
    subst hw
    refine ⟨he, ?_, Chg.setRow w g _ rfl⟩
    have := setRow_heap w g _ (putPlaceRow (nums .u8 l) 0 l at_ place).toArray _ (0, 0) h
    rw [putPlaceRow_nums] at this ⊢
    exact this

end Go.Proofs.Ytfempngnapkhjaa.Codec
