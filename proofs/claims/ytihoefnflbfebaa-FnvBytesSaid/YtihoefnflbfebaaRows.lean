/-
  No cell of these rows narrows 'for every input' (looked for: loops, veiled, ifaces, maps, wideKeys, modest, calm, conditions, laid).
  DERIVED. THE GIVEN ROWS OF THIS SEAT. 7 by the template 'for every input the law returns true; each argument reads behind the call as it read before'; 0 by the template 'total and deterministic' (their statements: YtihoefnflbfebaaTotals.lean).
  GIVEN WITH THE SEED: the statements are not yours to turn. If you find one false, say at which input.
  Laid BY PROGRAM, IN A SANDBOX (cutbox-rows.mjs): the forced cells as the released guide's own fill.sh prints them over the translation 7fe9ccad2d0fd998… (all of the seat's roots in one cut). By AI agents, Wed Nov 11 2026. No macro, syntax, notation, axiom, sorry.
-/
import Derived.Test.YtihoefnflbfebaaChecked
import GoSem.Claim
import GoSem.ClaimJoined
import GoSem.ClaimMapViews
import Derived.JoinedTies
import Derived.KernelRfl
namespace Go.Proofs.Ytihoefnflbfebaa
/- THE CELL 'sum', in the pinned program and in every row, IS THE sha256 OF THE DUMP (.gsa) THAT YtihoefnflbfebaaProg.lean LOADS. Nothing in Lean hashes anything: it is a label: what it is worth is what the hold of that sum in a sandbox is worth. -/
noncomputable def Try.pinned : Pinned := { name := "ytihoefnflbfebaa", sum := "7fe9ccad2d0fd9985bc9a4b4f1ce44cf773b712615a85bd145196739d6542951", checked := Try.checked }
namespace Rows
def none {H : Type} : Left H := { results := [], args := [] }

/-- 'tallboylaw04.FnvBuckets': WHATEVER THE INPUT: true; the input reads as it did. -/
def fnvBucketsSpec : ChangeSpec := { name := "fnvBuckets", fn := fun _ => fun
  | [d1, d2] => { results := [.lit (.bool true)], args := [d1, d2] }
  | _ => none }
def fnvBucketsRow : OpenClaim := { program := "ytihoefnflbfebaa", sum := "7fe9ccad2d0fd9985bc9a4b4f1ce44cf773b712615a85bd145196739d6542951", func := "tallboy/tallboylaw04.FnvBuckets", spec := "fnvBuckets", apart := false }
def FnvBucketsSaid : Prop := fnvBucketsRow.holds Try.pinned (OpenSpec.ofChange fnvBucketsSpec)

/-- ITS FALSE NEIGHBOUR: 'it returns false'. Refute it at one input. -/
def fnvBucketsWrong : ChangeSpec := { name := "fnvBuckets", fn := fun _ => fun
  | [d1, d2] => { results := [.lit (.bool false)], args := [d1, d2] }
  | _ => none }
def FnvBucketsWrongFalsely : Prop := fnvBucketsRow.holds Try.pinned (OpenSpec.ofChange fnvBucketsWrong)

/-- 'tallboylaw04.FnvSums': WHATEVER THE INPUT: true; the input reads as it did. -/
def fnvSumsSpec : ChangeSpec := { name := "fnvSums", fn := fun _ => fun
  | [d1, d2] => { results := [.lit (.bool true)], args := [d1, d2] }
  | _ => none }
def fnvSumsRow : OpenClaim := { program := "ytihoefnflbfebaa", sum := "7fe9ccad2d0fd9985bc9a4b4f1ce44cf773b712615a85bd145196739d6542951", func := "tallboy/tallboylaw04.FnvSums", spec := "fnvSums", apart := false }
def FnvSumsSaid : Prop := fnvSumsRow.holds Try.pinned (OpenSpec.ofChange fnvSumsSpec)

/-- ITS FALSE NEIGHBOUR: 'it returns false'. Refute it at one input. -/
def fnvSumsWrong : ChangeSpec := { name := "fnvSums", fn := fun _ => fun
  | [d1, d2] => { results := [.lit (.bool false)], args := [d1, d2] }
  | _ => none }
def FnvSumsWrongFalsely : Prop := fnvSumsRow.holds Try.pinned (OpenSpec.ofChange fnvSumsWrong)

/-- 'tallboylaw04.FnvParts': WHATEVER THE INPUT: true; the input reads as it did. -/
def fnvPartsSpec : ChangeSpec := { name := "fnvParts", fn := fun _ => fun
  | [d1, d2] => { results := [.lit (.bool true)], args := [d1, d2] }
  | _ => none }
def fnvPartsRow : OpenClaim := { program := "ytihoefnflbfebaa", sum := "7fe9ccad2d0fd9985bc9a4b4f1ce44cf773b712615a85bd145196739d6542951", func := "tallboy/tallboylaw04.FnvParts", spec := "fnvParts", apart := false }
def FnvPartsSaid : Prop := fnvPartsRow.holds Try.pinned (OpenSpec.ofChange fnvPartsSpec)

/-- ITS FALSE NEIGHBOUR: 'it returns false'. Refute it at one input. -/
def fnvPartsWrong : ChangeSpec := { name := "fnvParts", fn := fun _ => fun
  | [d1, d2] => { results := [.lit (.bool false)], args := [d1, d2] }
  | _ => none }
def FnvPartsWrongFalsely : Prop := fnvPartsRow.holds Try.pinned (OpenSpec.ofChange fnvPartsWrong)

/-- 'tallboylaw04.FnvGrows': WHATEVER THE INPUT: true; the input reads as it did. -/
def fnvGrowsSpec : ChangeSpec := { name := "fnvGrows", fn := fun _ => fun
  | [d1, d2] => { results := [.lit (.bool true)], args := [d1, d2] }
  | _ => none }
def fnvGrowsRow : OpenClaim := { program := "ytihoefnflbfebaa", sum := "7fe9ccad2d0fd9985bc9a4b4f1ce44cf773b712615a85bd145196739d6542951", func := "tallboy/tallboylaw04.FnvGrows", spec := "fnvGrows", apart := false }
def FnvGrowsSaid : Prop := fnvGrowsRow.holds Try.pinned (OpenSpec.ofChange fnvGrowsSpec)

/-- ITS FALSE NEIGHBOUR: 'it returns false'. Refute it at one input. -/
def fnvGrowsWrong : ChangeSpec := { name := "fnvGrows", fn := fun _ => fun
  | [d1, d2] => { results := [.lit (.bool false)], args := [d1, d2] }
  | _ => none }
def FnvGrowsWrongFalsely : Prop := fnvGrowsRow.holds Try.pinned (OpenSpec.ofChange fnvGrowsWrong)

/-- 'tallboylaw04.FnvKeys': WHATEVER THE INPUT: true; the input reads as it did. -/
def fnvKeysSpec : ChangeSpec := { name := "fnvKeys", fn := fun _ => fun
  | [d1, d2] => { results := [.lit (.bool true)], args := [d1, d2] }
  | _ => none }
def fnvKeysRow : OpenClaim := { program := "ytihoefnflbfebaa", sum := "7fe9ccad2d0fd9985bc9a4b4f1ce44cf773b712615a85bd145196739d6542951", func := "tallboy/tallboylaw04.FnvKeys", spec := "fnvKeys", apart := false }
def FnvKeysSaid : Prop := fnvKeysRow.holds Try.pinned (OpenSpec.ofChange fnvKeysSpec)

/-- ITS FALSE NEIGHBOUR: 'it returns false'. Refute it at one input. -/
def fnvKeysWrong : ChangeSpec := { name := "fnvKeys", fn := fun _ => fun
  | [d1, d2] => { results := [.lit (.bool false)], args := [d1, d2] }
  | _ => none }
def FnvKeysWrongFalsely : Prop := fnvKeysRow.holds Try.pinned (OpenSpec.ofChange fnvKeysWrong)

/-- 'tallboylaw04.FnvBytes': WHATEVER THE INPUT: true; the input reads as it did. -/
def fnvBytesSpec : ChangeSpec := { name := "fnvBytes", fn := fun _ => fun
  | [d1, d2, d3] => { results := [.lit (.bool true)], args := [d1, d2, d3] }
  | _ => none }
def fnvBytesRow : OpenClaim := { program := "ytihoefnflbfebaa", sum := "7fe9ccad2d0fd9985bc9a4b4f1ce44cf773b712615a85bd145196739d6542951", func := "tallboy/tallboylaw04.FnvBytes", spec := "fnvBytes", apart := false }
def FnvBytesSaid : Prop := fnvBytesRow.holds Try.pinned (OpenSpec.ofChange fnvBytesSpec)

/-- ITS FALSE NEIGHBOUR: 'it returns false'. Refute it at one input. -/
def fnvBytesWrong : ChangeSpec := { name := "fnvBytes", fn := fun _ => fun
  | [d1, d2, d3] => { results := [.lit (.bool false)], args := [d1, d2, d3] }
  | _ => none }
def FnvBytesWrongFalsely : Prop := fnvBytesRow.holds Try.pinned (OpenSpec.ofChange fnvBytesWrong)

/-- 'tallboylaw04.FnvAll': WHATEVER THE INPUT: true; the input reads as it did. -/
def fnvAllSpec : ChangeSpec := { name := "fnvAll", fn := fun _ => fun
  | [d1, d2, d3] => { results := [.lit (.bool true)], args := [d1, d2, d3] }
  | _ => none }
def fnvAllRow : OpenClaim := { program := "ytihoefnflbfebaa", sum := "7fe9ccad2d0fd9985bc9a4b4f1ce44cf773b712615a85bd145196739d6542951", func := "tallboy/tallboylaw04.FnvAll", spec := "fnvAll", apart := false }
def FnvAllSaid : Prop := fnvAllRow.holds Try.pinned (OpenSpec.ofChange fnvAllSpec)

/-- ITS FALSE NEIGHBOUR: 'it returns false'. Refute it at one input. -/
def fnvAllWrong : ChangeSpec := { name := "fnvAll", fn := fun _ => fun
  | [d1, d2, d3] => { results := [.lit (.bool false)], args := [d1, d2, d3] }
  | _ => none }
def FnvAllWrongFalsely : Prop := fnvAllRow.holds Try.pinned (OpenSpec.ofChange fnvAllWrong)

/- THE SECOND FORM. 'bulk': how many values and letters a reading holds, each counted each time it is reached (what is shared counts as often as it is met; a slice's spare places count too). A statement '..UptoSaid' is the law's where the arguments, and the package variables that the reading takes, are together of bulk at most 1048576: NARROWER than '..Said'. Prove '..Said' where nothing that the law and all that it calls make is longer than what came in: it says more and counts as full. Else prove '..UptoSaid'. A law counts once. -/
mutual
def uptoBulk {H : Type} : DataW H → Nat
  | .lit (.string bytes) => bytes.length + 1
  | .lit _ => 1
  | .nil => 1
  | .ptr d => uptoBulk d + 1
  | .slice elems spare => uptoBulkAll elems + uptoBulkAll spare + 1
  | .agg parts => uptoBulkAll parts + 1
  | .iface _ d => uptoBulk d + 1
  | .map entries => uptoBulkEntries entries + 1
  | .held _ => 1
def uptoBulkAll {H : Type} : List (DataW H) → Nat
  | [] => 0
  | d :: r => uptoBulk d + uptoBulkAll r
def uptoBulkEntries {H : Type} : List (Lit × DataW H) → Nat
  | [] => 0
  | x :: r => uptoBulkEntry x + uptoBulkEntries r
def uptoBulkEntry {H : Type} : Lit × DataW H → Nat
  | (.string bytes, d) => bytes.length + uptoBulk d + 1
  | (_, d) => uptoBulk d + 1
 end
def uptoSmall : (H : Type) → List (DataW H) → Bool := fun _ ds => decide (uptoBulkAll ds ≤ 1048576)
def OpenSpec.upto (s : _root_.Go.ChangeSpec) : _root_.Go.OpenSpec := { _root_.Go.OpenSpec.ofChange s with cond := some uptoSmall }

/-- 'tallboylaw04.FnvBuckets', WHERE WHAT IT READS IS OF BULK AT MOST 1048576: true; the input reads as it did. -/
def fnvBucketsUptoRow : OpenClaim := { program := "ytihoefnflbfebaa", sum := "7fe9ccad2d0fd9985bc9a4b4f1ce44cf773b712615a85bd145196739d6542951", func := "tallboy/tallboylaw04.FnvBuckets", spec := "fnvBuckets", apart := false, narrowed := true }
def FnvBucketsUptoSaid : Prop := fnvBucketsUptoRow.holds Try.pinned (OpenSpec.upto fnvBucketsSpec)

/-- 'tallboylaw04.FnvSums', WHERE WHAT IT READS IS OF BULK AT MOST 1048576: true; the input reads as it did. -/
def fnvSumsUptoRow : OpenClaim := { program := "ytihoefnflbfebaa", sum := "7fe9ccad2d0fd9985bc9a4b4f1ce44cf773b712615a85bd145196739d6542951", func := "tallboy/tallboylaw04.FnvSums", spec := "fnvSums", apart := false, narrowed := true }
def FnvSumsUptoSaid : Prop := fnvSumsUptoRow.holds Try.pinned (OpenSpec.upto fnvSumsSpec)

/-- 'tallboylaw04.FnvParts', WHERE WHAT IT READS IS OF BULK AT MOST 1048576: true; the input reads as it did. -/
def fnvPartsUptoRow : OpenClaim := { program := "ytihoefnflbfebaa", sum := "7fe9ccad2d0fd9985bc9a4b4f1ce44cf773b712615a85bd145196739d6542951", func := "tallboy/tallboylaw04.FnvParts", spec := "fnvParts", apart := false, narrowed := true }
def FnvPartsUptoSaid : Prop := fnvPartsUptoRow.holds Try.pinned (OpenSpec.upto fnvPartsSpec)

/-- 'tallboylaw04.FnvGrows', WHERE WHAT IT READS IS OF BULK AT MOST 1048576: true; the input reads as it did. -/
def fnvGrowsUptoRow : OpenClaim := { program := "ytihoefnflbfebaa", sum := "7fe9ccad2d0fd9985bc9a4b4f1ce44cf773b712615a85bd145196739d6542951", func := "tallboy/tallboylaw04.FnvGrows", spec := "fnvGrows", apart := false, narrowed := true }
def FnvGrowsUptoSaid : Prop := fnvGrowsUptoRow.holds Try.pinned (OpenSpec.upto fnvGrowsSpec)

/-- 'tallboylaw04.FnvKeys', WHERE WHAT IT READS IS OF BULK AT MOST 1048576: true; the input reads as it did. -/
def fnvKeysUptoRow : OpenClaim := { program := "ytihoefnflbfebaa", sum := "7fe9ccad2d0fd9985bc9a4b4f1ce44cf773b712615a85bd145196739d6542951", func := "tallboy/tallboylaw04.FnvKeys", spec := "fnvKeys", apart := false, narrowed := true }
def FnvKeysUptoSaid : Prop := fnvKeysUptoRow.holds Try.pinned (OpenSpec.upto fnvKeysSpec)

/-- 'tallboylaw04.FnvBytes', WHERE WHAT IT READS IS OF BULK AT MOST 1048576: true; the input reads as it did. -/
def fnvBytesUptoRow : OpenClaim := { program := "ytihoefnflbfebaa", sum := "7fe9ccad2d0fd9985bc9a4b4f1ce44cf773b712615a85bd145196739d6542951", func := "tallboy/tallboylaw04.FnvBytes", spec := "fnvBytes", apart := false, narrowed := true }
def FnvBytesUptoSaid : Prop := fnvBytesUptoRow.holds Try.pinned (OpenSpec.upto fnvBytesSpec)

/-- 'tallboylaw04.FnvAll', WHERE WHAT IT READS IS OF BULK AT MOST 1048576: true; the input reads as it did. -/
def fnvAllUptoRow : OpenClaim := { program := "ytihoefnflbfebaa", sum := "7fe9ccad2d0fd9985bc9a4b4f1ce44cf773b712615a85bd145196739d6542951", func := "tallboy/tallboylaw04.FnvAll", spec := "fnvAll", apart := false, narrowed := true }
def FnvAllUptoSaid : Prop := fnvAllUptoRow.holds Try.pinned (OpenSpec.upto fnvAllSpec)

end Rows
end Go.Proofs.Ytihoefnflbfebaa
