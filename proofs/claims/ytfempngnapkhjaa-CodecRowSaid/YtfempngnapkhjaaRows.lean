/-
  No cell of these rows narrows 'for every input' (looked for: loops, veiled, ifaces, maps, wideKeys, modest, calm, conditions, laid).
  DERIVED. THE GIVEN ROWS OF THIS SEAT. 6 by the template 'for every input the law returns true; each argument reads behind the call as it read before'; 0 by the template 'total and deterministic' (their statements: YtfempngnapkhjaaTotals.lean).
  GIVEN WITH THE SEED: the statements are not yours to turn. If you find one false, say at which input.
  Laid BY PROGRAM, IN A SANDBOX (cutbox-rows.mjs): the forced cells as the released guide's own fill.sh prints them over the translation 9f0ba52108dd54c3… (all of the seat's roots in one cut). By AI agents, Wed Nov 11 2026. No macro, syntax, notation, axiom, sorry.
-/
import Derived.Test.YtfempngnapkhjaaChecked
import GoSem.Claim
import GoSem.ClaimJoined
import GoSem.ClaimMapViews
import Derived.JoinedTies
import Derived.KernelRfl
namespace Go.Proofs.Ytfempngnapkhjaa
/- THE CELL 'sum', in the pinned program and in every row, IS THE sha256 OF THE DUMP (.gsa) THAT YtfempngnapkhjaaProg.lean LOADS. Nothing in Lean hashes anything: it is a label: what it is worth is what the hold of that sum in a sandbox is worth. -/
noncomputable def Try.pinned : Pinned := { name := "ytfempngnapkhjaa", sum := "9f0ba52108dd54c310263b9eec729e8d62ffcc6ca6dd5a43ac5033a8789b8add", checked := Try.checked }
namespace Rows
def none {H : Type} : Left H := { results := [], args := [] }

/-- 'tallboylaw03.CodecPuts': WHATEVER THE INPUT: true; the input reads as it did. -/
def codecPutsSpec : ChangeSpec := { name := "codecPuts", fn := fun _ => fun
  | [d1, d2, d3, d4] => { results := [.lit (.bool true)], args := [d1, d2, d3, d4] }
  | _ => none }
def codecPutsRow : OpenClaim := { program := "ytfempngnapkhjaa", sum := "9f0ba52108dd54c310263b9eec729e8d62ffcc6ca6dd5a43ac5033a8789b8add", func := "tallboy/tallboylaw03.CodecPuts", spec := "codecPuts", apart := false }
def CodecPutsSaid : Prop := codecPutsRow.holds Try.pinned (OpenSpec.ofChange codecPutsSpec)

/-- ITS FALSE NEIGHBOUR: 'it returns false'. Refute it at one input. -/
def codecPutsWrong : ChangeSpec := { name := "codecPuts", fn := fun _ => fun
  | [d1, d2, d3, d4] => { results := [.lit (.bool false)], args := [d1, d2, d3, d4] }
  | _ => none }
def CodecPutsWrongFalsely : Prop := codecPutsRow.holds Try.pinned (OpenSpec.ofChange codecPutsWrong)

/-- 'tallboylaw03.CodecPlaces': WHATEVER THE INPUT: true; the input reads as it did. -/
def codecPlacesSpec : ChangeSpec := { name := "codecPlaces", fn := fun _ => fun
  | [d1, d2, d3] => { results := [.lit (.bool true)], args := [d1, d2, d3] }
  | _ => none }
def codecPlacesRow : OpenClaim := { program := "ytfempngnapkhjaa", sum := "9f0ba52108dd54c310263b9eec729e8d62ffcc6ca6dd5a43ac5033a8789b8add", func := "tallboy/tallboylaw03.CodecPlaces", spec := "codecPlaces", apart := false }
def CodecPlacesSaid : Prop := codecPlacesRow.holds Try.pinned (OpenSpec.ofChange codecPlacesSpec)

/-- ITS FALSE NEIGHBOUR: 'it returns false'. Refute it at one input. -/
def codecPlacesWrong : ChangeSpec := { name := "codecPlaces", fn := fun _ => fun
  | [d1, d2, d3] => { results := [.lit (.bool false)], args := [d1, d2, d3] }
  | _ => none }
def CodecPlacesWrongFalsely : Prop := codecPlacesRow.holds Try.pinned (OpenSpec.ofChange codecPlacesWrong)

/-- 'tallboylaw03.CodecBack': WHATEVER THE INPUT: true; the input reads as it did. -/
def codecBackSpec : ChangeSpec := { name := "codecBack", fn := fun _ => fun
  | [d1, d2, d3, d4] => { results := [.lit (.bool true)], args := [d1, d2, d3, d4] }
  | _ => none }
def codecBackRow : OpenClaim := { program := "ytfempngnapkhjaa", sum := "9f0ba52108dd54c310263b9eec729e8d62ffcc6ca6dd5a43ac5033a8789b8add", func := "tallboy/tallboylaw03.CodecBack", spec := "codecBack", apart := false }
def CodecBackSaid : Prop := codecBackRow.holds Try.pinned (OpenSpec.ofChange codecBackSpec)

/-- ITS FALSE NEIGHBOUR: 'it returns false'. Refute it at one input. -/
def codecBackWrong : ChangeSpec := { name := "codecBack", fn := fun _ => fun
  | [d1, d2, d3, d4] => { results := [.lit (.bool false)], args := [d1, d2, d3, d4] }
  | _ => none }
def CodecBackWrongFalsely : Prop := codecBackRow.holds Try.pinned (OpenSpec.ofChange codecBackWrong)

/-- 'tallboylaw03.CodecHalves': WHATEVER THE INPUT: true; the input reads as it did. -/
def codecHalvesSpec : ChangeSpec := { name := "codecHalves", fn := fun _ => fun
  | [d] => { results := [.lit (.bool true)], args := [d] }
  | _ => none }
def codecHalvesRow : OpenClaim := { program := "ytfempngnapkhjaa", sum := "9f0ba52108dd54c310263b9eec729e8d62ffcc6ca6dd5a43ac5033a8789b8add", func := "tallboy/tallboylaw03.CodecHalves", spec := "codecHalves", apart := false }
def CodecHalvesSaid : Prop := codecHalvesRow.holds Try.pinned (OpenSpec.ofChange codecHalvesSpec)

/-- ITS FALSE NEIGHBOUR: 'it returns false'. Refute it at one input. -/
def codecHalvesWrong : ChangeSpec := { name := "codecHalves", fn := fun _ => fun
  | [d] => { results := [.lit (.bool false)], args := [d] }
  | _ => none }
def CodecHalvesWrongFalsely : Prop := codecHalvesRow.holds Try.pinned (OpenSpec.ofChange codecHalvesWrong)

/-- 'tallboylaw03.CodecRow': WHATEVER THE INPUT: true; the input reads as it did. -/
def codecRowSpec : ChangeSpec := { name := "codecRow", fn := fun _ => fun
  | [d1, d2] => { results := [.lit (.bool true)], args := [d1, d2] }
  | _ => none }
def codecRowRow : OpenClaim := { program := "ytfempngnapkhjaa", sum := "9f0ba52108dd54c310263b9eec729e8d62ffcc6ca6dd5a43ac5033a8789b8add", func := "tallboy/tallboylaw03.CodecRow", spec := "codecRow", apart := false }
def CodecRowSaid : Prop := codecRowRow.holds Try.pinned (OpenSpec.ofChange codecRowSpec)

/-- ITS FALSE NEIGHBOUR: 'it returns false'. Refute it at one input. -/
def codecRowWrong : ChangeSpec := { name := "codecRow", fn := fun _ => fun
  | [d1, d2] => { results := [.lit (.bool false)], args := [d1, d2] }
  | _ => none }
def CodecRowWrongFalsely : Prop := codecRowRow.holds Try.pinned (OpenSpec.ofChange codecRowWrong)

/-- 'tallboylaw03.CodecNone': WHATEVER THE INPUT: true; the input reads as it did. -/
def codecNoneSpec : ChangeSpec := { name := "codecNone", fn := fun _ => fun
  | [d1, d2] => { results := [.lit (.bool true)], args := [d1, d2] }
  | _ => none }
def codecNoneRow : OpenClaim := { program := "ytfempngnapkhjaa", sum := "9f0ba52108dd54c310263b9eec729e8d62ffcc6ca6dd5a43ac5033a8789b8add", func := "tallboy/tallboylaw03.CodecNone", spec := "codecNone", apart := false }
def CodecNoneSaid : Prop := codecNoneRow.holds Try.pinned (OpenSpec.ofChange codecNoneSpec)

/-- ITS FALSE NEIGHBOUR: 'it returns false'. Refute it at one input. -/
def codecNoneWrong : ChangeSpec := { name := "codecNone", fn := fun _ => fun
  | [d1, d2] => { results := [.lit (.bool false)], args := [d1, d2] }
  | _ => none }
def CodecNoneWrongFalsely : Prop := codecNoneRow.holds Try.pinned (OpenSpec.ofChange codecNoneWrong)

/- THE SECOND FORM. 'bulk': how many values and letters a reading holds, each counted each time it is reached (what is shared counts as often as it is met; a slice's spare places count too). A statement '..UptoSaid' is the law's where the arguments, and the package variables that the reading takes, are together of bulk at most 1048576: NARROWER than '..Said'. Prove '..Said' where nothing that the law and all that it calls make is longer than what came in: it says more and counts as full. Else prove '..UptoSaid'. A law counts once. -/
mutual
def uptoBulk {H : Type} : DataW H → Nat
  | .lit (.string bytes) => bytes.length + 1
  | .lit _ => 1
  | .nil => 1
  | .ptr d => uptoBulk d + 1
  | .slice elems spare => uptoBulkAll elems + uptoBulkAll spare + 1
  | .agg parts => uptoBulkAll parts + 1
  | .iface _ d => uptoBulk d + 1
  | .map entries => uptoBulkEntries entries + 1
  | .held _ => 1
def uptoBulkAll {H : Type} : List (DataW H) → Nat
  | [] => 0
  | d :: r => uptoBulk d + uptoBulkAll r
def uptoBulkEntries {H : Type} : List (Lit × DataW H) → Nat
  | [] => 0
  | x :: r => uptoBulkEntry x + uptoBulkEntries r
def uptoBulkEntry {H : Type} : Lit × DataW H → Nat
  | (.string bytes, d) => bytes.length + uptoBulk d + 1
  | (_, d) => uptoBulk d + 1
 end
def uptoSmall : (H : Type) → List (DataW H) → Bool := fun _ ds => decide (uptoBulkAll ds ≤ 1048576)
def OpenSpec.upto (s : _root_.Go.ChangeSpec) : _root_.Go.OpenSpec := { _root_.Go.OpenSpec.ofChange s with cond := some uptoSmall }

/-- 'tallboylaw03.CodecPuts', WHERE WHAT IT READS IS OF BULK AT MOST 1048576: true; the input reads as it did. -/
def codecPutsUptoRow : OpenClaim := { program := "ytfempngnapkhjaa", sum := "9f0ba52108dd54c310263b9eec729e8d62ffcc6ca6dd5a43ac5033a8789b8add", func := "tallboy/tallboylaw03.CodecPuts", spec := "codecPuts", apart := false, narrowed := true }
def CodecPutsUptoSaid : Prop := codecPutsUptoRow.holds Try.pinned (OpenSpec.upto codecPutsSpec)

/-- 'tallboylaw03.CodecPlaces', WHERE WHAT IT READS IS OF BULK AT MOST 1048576: true; the input reads as it did. -/
def codecPlacesUptoRow : OpenClaim := { program := "ytfempngnapkhjaa", sum := "9f0ba52108dd54c310263b9eec729e8d62ffcc6ca6dd5a43ac5033a8789b8add", func := "tallboy/tallboylaw03.CodecPlaces", spec := "codecPlaces", apart := false, narrowed := true }
def CodecPlacesUptoSaid : Prop := codecPlacesUptoRow.holds Try.pinned (OpenSpec.upto codecPlacesSpec)

/-- 'tallboylaw03.CodecBack', WHERE WHAT IT READS IS OF BULK AT MOST 1048576: true; the input reads as it did. -/
def codecBackUptoRow : OpenClaim := { program := "ytfempngnapkhjaa", sum := "9f0ba52108dd54c310263b9eec729e8d62ffcc6ca6dd5a43ac5033a8789b8add", func := "tallboy/tallboylaw03.CodecBack", spec := "codecBack", apart := false, narrowed := true }
def CodecBackUptoSaid : Prop := codecBackUptoRow.holds Try.pinned (OpenSpec.upto codecBackSpec)

/-- 'tallboylaw03.CodecHalves', WHERE WHAT IT READS IS OF BULK AT MOST 1048576: true; the input reads as it did. -/
def codecHalvesUptoRow : OpenClaim := { program := "ytfempngnapkhjaa", sum := "9f0ba52108dd54c310263b9eec729e8d62ffcc6ca6dd5a43ac5033a8789b8add", func := "tallboy/tallboylaw03.CodecHalves", spec := "codecHalves", apart := false, narrowed := true }
def CodecHalvesUptoSaid : Prop := codecHalvesUptoRow.holds Try.pinned (OpenSpec.upto codecHalvesSpec)

/-- 'tallboylaw03.CodecRow', WHERE WHAT IT READS IS OF BULK AT MOST 1048576: true; the input reads as it did. -/
def codecRowUptoRow : OpenClaim := { program := "ytfempngnapkhjaa", sum := "9f0ba52108dd54c310263b9eec729e8d62ffcc6ca6dd5a43ac5033a8789b8add", func := "tallboy/tallboylaw03.CodecRow", spec := "codecRow", apart := false, narrowed := true }
def CodecRowUptoSaid : Prop := codecRowUptoRow.holds Try.pinned (OpenSpec.upto codecRowSpec)

/-- 'tallboylaw03.CodecNone', WHERE WHAT IT READS IS OF BULK AT MOST 1048576: true; the input reads as it did. -/
def codecNoneUptoRow : OpenClaim := { program := "ytfempngnapkhjaa", sum := "9f0ba52108dd54c310263b9eec729e8d62ffcc6ca6dd5a43ac5033a8789b8add", func := "tallboy/tallboylaw03.CodecNone", spec := "codecNone", apart := false, narrowed := true }
def CodecNoneUptoSaid : Prop := codecNoneUptoRow.holds Try.pinned (OpenSpec.upto codecNoneSpec)

end Rows
end Go.Proofs.Ytfempngnapkhjaa
