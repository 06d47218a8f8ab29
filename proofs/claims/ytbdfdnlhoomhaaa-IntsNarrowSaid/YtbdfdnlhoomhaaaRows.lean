/-
  No cell of these rows narrows 'for every input' (looked for: loops, veiled, ifaces, maps, wideKeys, modest, calm, conditions, laid).
  DERIVED. THE GIVEN ROWS OF THIS SEAT. 8 by the template 'for every input the law returns true; each argument reads behind the call as it read before'; 0 by the template 'total and deterministic' (their statements: YtbdfdnlhoomhaaaTotals.lean).
  GIVEN WITH THE SEED: the statements are not yours to turn. If you find one false, say at which input.
  Laid BY PROGRAM, IN A SANDBOX (cutbox-rows.mjs): the forced cells as the released guide's own fill.sh prints them over the translation 6c58f773e0e8df87… (all of the seat's roots in one cut). By AI agents, Wed Nov 11 2026. No macro, syntax, notation, axiom, sorry.
-/
import Derived.Test.YtbdfdnlhoomhaaaChecked
import GoSem.Claim
import GoSem.ClaimJoined
import GoSem.ClaimMapViews
import Derived.JoinedTies
import Derived.KernelRfl
namespace Go.Proofs.Ytbdfdnlhoomhaaa
/- THE CELL 'sum', in the pinned program and in every row, IS THE sha256 OF THE DUMP (.gsa) THAT YtbdfdnlhoomhaaaProg.lean LOADS. Nothing in Lean hashes anything: it is a label: what it is worth is what the hold of that sum in a sandbox is worth. -/
noncomputable def Try.pinned : Pinned := { name := "ytbdfdnlhoomhaaa", sum := "6c58f773e0e8df876be9296c6f982f24e0c112c8b186aaf907b4778dc0d2c9c2", checked := Try.checked }
namespace Rows
def none {H : Type} : Left H := { results := [], args := [] }

/-- 'tallboylaw01.IntsTurns': WHATEVER THE INPUT: true; the input reads as it did. -/
def intsTurnsSpec : ChangeSpec := { name := "intsTurns", fn := fun _ => fun
  | [d1, d2] => { results := [.lit (.bool true)], args := [d1, d2] }
  | _ => none }
def intsTurnsRow : OpenClaim := { program := "ytbdfdnlhoomhaaa", sum := "6c58f773e0e8df876be9296c6f982f24e0c112c8b186aaf907b4778dc0d2c9c2", func := "tallboy/tallboylaw01.IntsTurns", spec := "intsTurns", apart := false }
def IntsTurnsSaid : Prop := intsTurnsRow.holds Try.pinned (OpenSpec.ofChange intsTurnsSpec)

/-- ITS FALSE NEIGHBOUR: 'it returns false'. Refute it at one input. -/
def intsTurnsWrong : ChangeSpec := { name := "intsTurns", fn := fun _ => fun
  | [d1, d2] => { results := [.lit (.bool false)], args := [d1, d2] }
  | _ => none }
def IntsTurnsWrongFalsely : Prop := intsTurnsRow.holds Try.pinned (OpenSpec.ofChange intsTurnsWrong)

/-- 'tallboylaw01.IntsSizes': WHATEVER THE INPUT: true; the input reads as it did. -/
def intsSizesSpec : ChangeSpec := { name := "intsSizes", fn := fun _ => fun
  | [d1, d2] => { results := [.lit (.bool true)], args := [d1, d2] }
  | _ => none }
def intsSizesRow : OpenClaim := { program := "ytbdfdnlhoomhaaa", sum := "6c58f773e0e8df876be9296c6f982f24e0c112c8b186aaf907b4778dc0d2c9c2", func := "tallboy/tallboylaw01.IntsSizes", spec := "intsSizes", apart := false }
def IntsSizesSaid : Prop := intsSizesRow.holds Try.pinned (OpenSpec.ofChange intsSizesSpec)

/-- ITS FALSE NEIGHBOUR: 'it returns false'. Refute it at one input. -/
def intsSizesWrong : ChangeSpec := { name := "intsSizes", fn := fun _ => fun
  | [d1, d2] => { results := [.lit (.bool false)], args := [d1, d2] }
  | _ => none }
def IntsSizesWrongFalsely : Prop := intsSizesRow.holds Try.pinned (OpenSpec.ofChange intsSizesWrong)

/-- 'tallboylaw01.IntsBack': WHATEVER THE INPUT: true; the input reads as it did. -/
def intsBackSpec : ChangeSpec := { name := "intsBack", fn := fun _ => fun
  | [d1, d2] => { results := [.lit (.bool true)], args := [d1, d2] }
  | _ => none }
def intsBackRow : OpenClaim := { program := "ytbdfdnlhoomhaaa", sum := "6c58f773e0e8df876be9296c6f982f24e0c112c8b186aaf907b4778dc0d2c9c2", func := "tallboy/tallboylaw01.IntsBack", spec := "intsBack", apart := false }
def IntsBackSaid : Prop := intsBackRow.holds Try.pinned (OpenSpec.ofChange intsBackSpec)

/-- ITS FALSE NEIGHBOUR: 'it returns false'. Refute it at one input. -/
def intsBackWrong : ChangeSpec := { name := "intsBack", fn := fun _ => fun
  | [d1, d2] => { results := [.lit (.bool false)], args := [d1, d2] }
  | _ => none }
def IntsBackWrongFalsely : Prop := intsBackRow.holds Try.pinned (OpenSpec.ofChange intsBackWrong)

/-- 'tallboylaw01.IntsTogether': WHATEVER THE INPUT: true; the input reads as it did. -/
def intsTogetherSpec : ChangeSpec := { name := "intsTogether", fn := fun _ => fun
  | [d1, d2, d3] => { results := [.lit (.bool true)], args := [d1, d2, d3] }
  | _ => none }
def intsTogetherRow : OpenClaim := { program := "ytbdfdnlhoomhaaa", sum := "6c58f773e0e8df876be9296c6f982f24e0c112c8b186aaf907b4778dc0d2c9c2", func := "tallboy/tallboylaw01.IntsTogether", spec := "intsTogether", apart := false }
def IntsTogetherSaid : Prop := intsTogetherRow.holds Try.pinned (OpenSpec.ofChange intsTogetherSpec)

/-- ITS FALSE NEIGHBOUR: 'it returns false'. Refute it at one input. -/
def intsTogetherWrong : ChangeSpec := { name := "intsTogether", fn := fun _ => fun
  | [d1, d2, d3] => { results := [.lit (.bool false)], args := [d1, d2, d3] }
  | _ => none }
def IntsTogetherWrongFalsely : Prop := intsTogetherRow.holds Try.pinned (OpenSpec.ofChange intsTogetherWrong)

/-- 'tallboylaw01.IntsLost': WHATEVER THE INPUT: true; the input reads as it did. -/
def intsLostSpec : ChangeSpec := { name := "intsLost", fn := fun _ => fun
  | [d1, d2] => { results := [.lit (.bool true)], args := [d1, d2] }
  | _ => none }
def intsLostRow : OpenClaim := { program := "ytbdfdnlhoomhaaa", sum := "6c58f773e0e8df876be9296c6f982f24e0c112c8b186aaf907b4778dc0d2c9c2", func := "tallboy/tallboylaw01.IntsLost", spec := "intsLost", apart := false }
def IntsLostSaid : Prop := intsLostRow.holds Try.pinned (OpenSpec.ofChange intsLostSpec)

/-- ITS FALSE NEIGHBOUR: 'it returns false'. Refute it at one input. -/
def intsLostWrong : ChangeSpec := { name := "intsLost", fn := fun _ => fun
  | [d1, d2] => { results := [.lit (.bool false)], args := [d1, d2] }
  | _ => none }
def IntsLostWrongFalsely : Prop := intsLostRow.holds Try.pinned (OpenSpec.ofChange intsLostWrong)

/-- 'tallboylaw01.IntsSums': WHATEVER THE INPUT: true; the input reads as it did. -/
def intsSumsSpec : ChangeSpec := { name := "intsSums", fn := fun _ => fun
  | [d1, d2, d3] => { results := [.lit (.bool true)], args := [d1, d2, d3] }
  | _ => none }
def intsSumsRow : OpenClaim := { program := "ytbdfdnlhoomhaaa", sum := "6c58f773e0e8df876be9296c6f982f24e0c112c8b186aaf907b4778dc0d2c9c2", func := "tallboy/tallboylaw01.IntsSums", spec := "intsSums", apart := false }
def IntsSumsSaid : Prop := intsSumsRow.holds Try.pinned (OpenSpec.ofChange intsSumsSpec)

/-- ITS FALSE NEIGHBOUR: 'it returns false'. Refute it at one input. -/
def intsSumsWrong : ChangeSpec := { name := "intsSums", fn := fun _ => fun
  | [d1, d2, d3] => { results := [.lit (.bool false)], args := [d1, d2, d3] }
  | _ => none }
def IntsSumsWrongFalsely : Prop := intsSumsRow.holds Try.pinned (OpenSpec.ofChange intsSumsWrong)

/-- 'tallboylaw01.IntsNarrow': WHATEVER THE INPUT: true; the input reads as it did. -/
def intsNarrowSpec : ChangeSpec := { name := "intsNarrow", fn := fun _ => fun
  | [d] => { results := [.lit (.bool true)], args := [d] }
  | _ => none }
def intsNarrowRow : OpenClaim := { program := "ytbdfdnlhoomhaaa", sum := "6c58f773e0e8df876be9296c6f982f24e0c112c8b186aaf907b4778dc0d2c9c2", func := "tallboy/tallboylaw01.IntsNarrow", spec := "intsNarrow", apart := false }
def IntsNarrowSaid : Prop := intsNarrowRow.holds Try.pinned (OpenSpec.ofChange intsNarrowSpec)

/-- ITS FALSE NEIGHBOUR: 'it returns false'. Refute it at one input. -/
def intsNarrowWrong : ChangeSpec := { name := "intsNarrow", fn := fun _ => fun
  | [d] => { results := [.lit (.bool false)], args := [d] }
  | _ => none }
def IntsNarrowWrongFalsely : Prop := intsNarrowRow.holds Try.pinned (OpenSpec.ofChange intsNarrowWrong)

/-- 'tallboylaw01.IntsShifts': WHATEVER THE INPUT: true; the input reads as it did. -/
def intsShiftsSpec : ChangeSpec := { name := "intsShifts", fn := fun _ => fun
  | [d1, d2, d3, d4] => { results := [.lit (.bool true)], args := [d1, d2, d3, d4] }
  | _ => none }
def intsShiftsRow : OpenClaim := { program := "ytbdfdnlhoomhaaa", sum := "6c58f773e0e8df876be9296c6f982f24e0c112c8b186aaf907b4778dc0d2c9c2", func := "tallboy/tallboylaw01.IntsShifts", spec := "intsShifts", apart := false }
def IntsShiftsSaid : Prop := intsShiftsRow.holds Try.pinned (OpenSpec.ofChange intsShiftsSpec)

/-- ITS FALSE NEIGHBOUR: 'it returns false'. Refute it at one input. -/
def intsShiftsWrong : ChangeSpec := { name := "intsShifts", fn := fun _ => fun
  | [d1, d2, d3, d4] => { results := [.lit (.bool false)], args := [d1, d2, d3, d4] }
  | _ => none }
def IntsShiftsWrongFalsely : Prop := intsShiftsRow.holds Try.pinned (OpenSpec.ofChange intsShiftsWrong)

/- THE SECOND FORM. 'bulk': how many values and letters a reading holds, each counted each time it is reached (what is shared counts as often as it is met; a slice's spare places count too). A statement '..UptoSaid' is the law's where the arguments, and the package variables that the reading takes, are together of bulk at most 1048576: NARROWER than '..Said'. Prove '..Said' where nothing that the law and all that it calls make is longer than what came in: it says more and counts as full. Else prove '..UptoSaid'. A law counts once. -/
mutual
def uptoBulk {H : Type} : DataW H → Nat
  | .lit (.string bytes) => bytes.length + 1
  | .lit _ => 1
  | .nil => 1
  | .ptr d => uptoBulk d + 1
  | .slice elems spare => uptoBulkAll elems + uptoBulkAll spare + 1
  | .agg parts => uptoBulkAll parts + 1
  | .iface _ d => uptoBulk d + 1
  | .map entries => uptoBulkEntries entries + 1
  | .held _ => 1
def uptoBulkAll {H : Type} : List (DataW H) → Nat
  | [] => 0
  | d :: r => uptoBulk d + uptoBulkAll r
def uptoBulkEntries {H : Type} : List (Lit × DataW H) → Nat
  | [] => 0
  | x :: r => uptoBulkEntry x + uptoBulkEntries r
def uptoBulkEntry {H : Type} : Lit × DataW H → Nat
  | (.string bytes, d) => bytes.length + uptoBulk d + 1
  | (_, d) => uptoBulk d + 1
 end
def uptoSmall : (H : Type) → List (DataW H) → Bool := fun _ ds => decide (uptoBulkAll ds ≤ 1048576)
def OpenSpec.upto (s : _root_.Go.ChangeSpec) : _root_.Go.OpenSpec := { _root_.Go.OpenSpec.ofChange s with cond := some uptoSmall }

/-- 'tallboylaw01.IntsTurns', WHERE WHAT IT READS IS OF BULK AT MOST 1048576: true; the input reads as it did. -/
def intsTurnsUptoRow : OpenClaim := { program := "ytbdfdnlhoomhaaa", sum := "6c58f773e0e8df876be9296c6f982f24e0c112c8b186aaf907b4778dc0d2c9c2", func := "tallboy/tallboylaw01.IntsTurns", spec := "intsTurns", apart := false, narrowed := true }
def IntsTurnsUptoSaid : Prop := intsTurnsUptoRow.holds Try.pinned (OpenSpec.upto intsTurnsSpec)

/-- 'tallboylaw01.IntsSizes', WHERE WHAT IT READS IS OF BULK AT MOST 1048576: true; the input reads as it did. -/
def intsSizesUptoRow : OpenClaim := { program := "ytbdfdnlhoomhaaa", sum := "6c58f773e0e8df876be9296c6f982f24e0c112c8b186aaf907b4778dc0d2c9c2", func := "tallboy/tallboylaw01.IntsSizes", spec := "intsSizes", apart := false, narrowed := true }
def IntsSizesUptoSaid : Prop := intsSizesUptoRow.holds Try.pinned (OpenSpec.upto intsSizesSpec)

/-- 'tallboylaw01.IntsBack', WHERE WHAT IT READS IS OF BULK AT MOST 1048576: true; the input reads as it did. -/
def intsBackUptoRow : OpenClaim := { program := "ytbdfdnlhoomhaaa", sum := "6c58f773e0e8df876be9296c6f982f24e0c112c8b186aaf907b4778dc0d2c9c2", func := "tallboy/tallboylaw01.IntsBack", spec := "intsBack", apart := false, narrowed := true }
def IntsBackUptoSaid : Prop := intsBackUptoRow.holds Try.pinned (OpenSpec.upto intsBackSpec)

/-- 'tallboylaw01.IntsTogether', WHERE WHAT IT READS IS OF BULK AT MOST 1048576: true; the input reads as it did. -/
def intsTogetherUptoRow : OpenClaim := { program := "ytbdfdnlhoomhaaa", sum := "6c58f773e0e8df876be9296c6f982f24e0c112c8b186aaf907b4778dc0d2c9c2", func := "tallboy/tallboylaw01.IntsTogether", spec := "intsTogether", apart := false, narrowed := true }
def IntsTogetherUptoSaid : Prop := intsTogetherUptoRow.holds Try.pinned (OpenSpec.upto intsTogetherSpec)

/-- 'tallboylaw01.IntsLost', WHERE WHAT IT READS IS OF BULK AT MOST 1048576: true; the input reads as it did. -/
def intsLostUptoRow : OpenClaim := { program := "ytbdfdnlhoomhaaa", sum := "6c58f773e0e8df876be9296c6f982f24e0c112c8b186aaf907b4778dc0d2c9c2", func := "tallboy/tallboylaw01.IntsLost", spec := "intsLost", apart := false, narrowed := true }
def IntsLostUptoSaid : Prop := intsLostUptoRow.holds Try.pinned (OpenSpec.upto intsLostSpec)

/-- 'tallboylaw01.IntsSums', WHERE WHAT IT READS IS OF BULK AT MOST 1048576: true; the input reads as it did. -/
def intsSumsUptoRow : OpenClaim := { program := "ytbdfdnlhoomhaaa", sum := "6c58f773e0e8df876be9296c6f982f24e0c112c8b186aaf907b4778dc0d2c9c2", func := "tallboy/tallboylaw01.IntsSums", spec := "intsSums", apart := false, narrowed := true }
def IntsSumsUptoSaid : Prop := intsSumsUptoRow.holds Try.pinned (OpenSpec.upto intsSumsSpec)

/-- 'tallboylaw01.IntsNarrow', WHERE WHAT IT READS IS OF BULK AT MOST 1048576: true; the input reads as it did. -/
def intsNarrowUptoRow : OpenClaim := { program := "ytbdfdnlhoomhaaa", sum := "6c58f773e0e8df876be9296c6f982f24e0c112c8b186aaf907b4778dc0d2c9c2", func := "tallboy/tallboylaw01.IntsNarrow", spec := "intsNarrow", apart := false, narrowed := true }
def IntsNarrowUptoSaid : Prop := intsNarrowUptoRow.holds Try.pinned (OpenSpec.upto intsNarrowSpec)

/-- 'tallboylaw01.IntsShifts', WHERE WHAT IT READS IS OF BULK AT MOST 1048576: true; the input reads as it did. -/
def intsShiftsUptoRow : OpenClaim := { program := "ytbdfdnlhoomhaaa", sum := "6c58f773e0e8df876be9296c6f982f24e0c112c8b186aaf907b4778dc0d2c9c2", func := "tallboy/tallboylaw01.IntsShifts", spec := "intsShifts", apart := false, narrowed := true }
def IntsShiftsUptoSaid : Prop := intsShiftsUptoRow.holds Try.pinned (OpenSpec.upto intsShiftsSpec)

end Rows
end Go.Proofs.Ytbdfdnlhoomhaaa
