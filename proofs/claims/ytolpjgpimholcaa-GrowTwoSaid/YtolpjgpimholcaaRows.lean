/-
  No cell of these rows narrows 'for every input' (looked for: loops, veiled, ifaces, maps, wideKeys, modest, calm, conditions, laid).
  DERIVED. THE GIVEN ROWS OF THIS SEAT. 11 by the template 'for every input the law returns true; each argument reads behind the call as it read before'; 0 by the template 'total and deterministic' (their statements: YtolpjgpimholcaaTotals.lean).
  GIVEN WITH THE SEED: the statements are not yours to turn. If you find one false, say at which input.
  Laid BY PROGRAM, IN A SANDBOX (cutbox-rows.mjs): the forced cells as the released guide's own fill.sh prints them over the translation 7c141db34c315dd6… (all of the seat's roots in one cut). By AI agents, Wed Nov 11 2026. No macro, syntax, notation, axiom, sorry.
-/
import Derived.Test.YtolpjgpimholcaaChecked
import GoSem.Claim
import GoSem.ClaimJoined
import GoSem.ClaimMapViews
import Derived.JoinedTies
import Derived.KernelRfl
namespace Go.Proofs.Ytolpjgpimholcaa
/- THE CELL 'sum', in the pinned program and in every row, IS THE sha256 OF THE DUMP (.gsa) THAT YtolpjgpimholcaaProg.lean LOADS. Nothing in Lean hashes anything: it is a label: what it is worth is what the hold of that sum in a sandbox is worth. -/
noncomputable def Try.pinned : Pinned := { name := "ytolpjgpimholcaa", sum := "7c141db34c315dd6786feeba0e946146a5234d98ccc485441c50a07f87e1d26b", checked := Try.checked }
namespace Rows
def none {H : Type} : Left H := { results := [], args := [] }

/-- 'tallboylaw08.ItemBack': WHATEVER THE INPUT: true; the input reads as it did. -/
def itemBackSpec : ChangeSpec := { name := "itemBack", fn := fun _ => fun
  | [d1, d2] => { results := [.lit (.bool true)], args := [d1, d2] }
  | _ => none }
def itemBackRow : OpenClaim := { program := "ytolpjgpimholcaa", sum := "7c141db34c315dd6786feeba0e946146a5234d98ccc485441c50a07f87e1d26b", func := "tallboy/tallboylaw08.ItemBack", spec := "itemBack", apart := false }
def ItemBackSaid : Prop := itemBackRow.holds Try.pinned (OpenSpec.ofChange itemBackSpec)

/-- ITS FALSE NEIGHBOUR: 'it returns false'. Refute it at one input. -/
def itemBackWrong : ChangeSpec := { name := "itemBack", fn := fun _ => fun
  | [d1, d2] => { results := [.lit (.bool false)], args := [d1, d2] }
  | _ => none }
def ItemBackWrongFalsely : Prop := itemBackRow.holds Try.pinned (OpenSpec.ofChange itemBackWrong)

/-- 'tallboylaw08.ItemFields': WHATEVER THE INPUT: true; the input reads as it did. -/
def itemFieldsSpec : ChangeSpec := { name := "itemFields", fn := fun _ => fun
  | [d1, d2, d3] => { results := [.lit (.bool true)], args := [d1, d2, d3] }
  | _ => none }
def itemFieldsRow : OpenClaim := { program := "ytolpjgpimholcaa", sum := "7c141db34c315dd6786feeba0e946146a5234d98ccc485441c50a07f87e1d26b", func := "tallboy/tallboylaw08.ItemFields", spec := "itemFields", apart := false }
def ItemFieldsSaid : Prop := itemFieldsRow.holds Try.pinned (OpenSpec.ofChange itemFieldsSpec)

/-- ITS FALSE NEIGHBOUR: 'it returns false'. Refute it at one input. -/
def itemFieldsWrong : ChangeSpec := { name := "itemFields", fn := fun _ => fun
  | [d1, d2, d3] => { results := [.lit (.bool false)], args := [d1, d2, d3] }
  | _ => none }
def ItemFieldsWrongFalsely : Prop := itemFieldsRow.holds Try.pinned (OpenSpec.ofChange itemFieldsWrong)

/-- 'tallboylaw08.ItemNext': WHATEVER THE INPUT: true; the input reads as it did. -/
def itemNextSpec : ChangeSpec := { name := "itemNext", fn := fun _ => fun
  | [d1, d2, d3] => { results := [.lit (.bool true)], args := [d1, d2, d3] }
  | _ => none }
def itemNextRow : OpenClaim := { program := "ytolpjgpimholcaa", sum := "7c141db34c315dd6786feeba0e946146a5234d98ccc485441c50a07f87e1d26b", func := "tallboy/tallboylaw08.ItemNext", spec := "itemNext", apart := false }
def ItemNextSaid : Prop := itemNextRow.holds Try.pinned (OpenSpec.ofChange itemNextSpec)

/-- ITS FALSE NEIGHBOUR: 'it returns false'. Refute it at one input. -/
def itemNextWrong : ChangeSpec := { name := "itemNext", fn := fun _ => fun
  | [d1, d2, d3] => { results := [.lit (.bool false)], args := [d1, d2, d3] }
  | _ => none }
def ItemNextWrongFalsely : Prop := itemNextRow.holds Try.pinned (OpenSpec.ofChange itemNextWrong)

/-- 'tallboylaw08.ItemTwo': WHATEVER THE INPUT: true; the input reads as it did. -/
def itemTwoSpec : ChangeSpec := { name := "itemTwo", fn := fun _ => fun
  | [d1, d2, d3] => { results := [.lit (.bool true)], args := [d1, d2, d3] }
  | _ => none }
def itemTwoRow : OpenClaim := { program := "ytolpjgpimholcaa", sum := "7c141db34c315dd6786feeba0e946146a5234d98ccc485441c50a07f87e1d26b", func := "tallboy/tallboylaw08.ItemTwo", spec := "itemTwo", apart := false }
def ItemTwoSaid : Prop := itemTwoRow.holds Try.pinned (OpenSpec.ofChange itemTwoSpec)

/-- ITS FALSE NEIGHBOUR: 'it returns false'. Refute it at one input. -/
def itemTwoWrong : ChangeSpec := { name := "itemTwo", fn := fun _ => fun
  | [d1, d2, d3] => { results := [.lit (.bool false)], args := [d1, d2, d3] }
  | _ => none }
def ItemTwoWrongFalsely : Prop := itemTwoRow.holds Try.pinned (OpenSpec.ofChange itemTwoWrong)

/-- 'tallboylaw10.AssocFinds': WHATEVER THE INPUT: true; the input reads as it did. -/
def assocFindsSpec : ChangeSpec := { name := "assocFinds", fn := fun _ => fun
  | [d1, d2] => { results := [.lit (.bool true)], args := [d1, d2] }
  | _ => none }
def assocFindsRow : OpenClaim := { program := "ytolpjgpimholcaa", sum := "7c141db34c315dd6786feeba0e946146a5234d98ccc485441c50a07f87e1d26b", func := "tallboy/tallboylaw10.AssocFinds", spec := "assocFinds", unfollowed := true, recurses := true, apart := false }
def AssocFindsSaid : Prop := assocFindsRow.holds Try.pinned (OpenSpec.ofChange assocFindsSpec)

/-- ITS FALSE NEIGHBOUR: 'it returns false'. Refute it at one input. -/
def assocFindsWrong : ChangeSpec := { name := "assocFinds", fn := fun _ => fun
  | [d1, d2] => { results := [.lit (.bool false)], args := [d1, d2] }
  | _ => none }
def AssocFindsWrongFalsely : Prop := assocFindsRow.holds Try.pinned (OpenSpec.ofChange assocFindsWrong)

/-- 'tallboylaw10.AssocThreads': WHATEVER THE INPUT: true; the input reads as it did. -/
def assocThreadsSpec : ChangeSpec := { name := "assocThreads", fn := fun _ => fun
  | [d1, d2] => { results := [.lit (.bool true)], args := [d1, d2] }
  | _ => none }
def assocThreadsRow : OpenClaim := { program := "ytolpjgpimholcaa", sum := "7c141db34c315dd6786feeba0e946146a5234d98ccc485441c50a07f87e1d26b", func := "tallboy/tallboylaw10.AssocThreads", spec := "assocThreads", unfollowed := true, recurses := true, apart := false }
def AssocThreadsSaid : Prop := assocThreadsRow.holds Try.pinned (OpenSpec.ofChange assocThreadsSpec)

/-- ITS FALSE NEIGHBOUR: 'it returns false'. Refute it at one input. -/
def assocThreadsWrong : ChangeSpec := { name := "assocThreads", fn := fun _ => fun
  | [d1, d2] => { results := [.lit (.bool false)], args := [d1, d2] }
  | _ => none }
def AssocThreadsWrongFalsely : Prop := assocThreadsRow.holds Try.pinned (OpenSpec.ofChange assocThreadsWrong)

/-- 'tallboylaw10.AssocEmpties': WHATEVER THE INPUT: true; the input reads as it did. -/
def assocEmptiesSpec : ChangeSpec := { name := "assocEmpties", fn := fun _ => fun
  | [d1, d2] => { results := [.lit (.bool true)], args := [d1, d2] }
  | _ => none }
def assocEmptiesRow : OpenClaim := { program := "ytolpjgpimholcaa", sum := "7c141db34c315dd6786feeba0e946146a5234d98ccc485441c50a07f87e1d26b", func := "tallboy/tallboylaw10.AssocEmpties", spec := "assocEmpties", unfollowed := true, recurses := true, apart := false }
def AssocEmptiesSaid : Prop := assocEmptiesRow.holds Try.pinned (OpenSpec.ofChange assocEmptiesSpec)

/-- ITS FALSE NEIGHBOUR: 'it returns false'. Refute it at one input. -/
def assocEmptiesWrong : ChangeSpec := { name := "assocEmpties", fn := fun _ => fun
  | [d1, d2] => { results := [.lit (.bool false)], args := [d1, d2] }
  | _ => none }
def AssocEmptiesWrongFalsely : Prop := assocEmptiesRow.holds Try.pinned (OpenSpec.ofChange assocEmptiesWrong)

/-- 'tallboylaw10.AssocDoes': WHATEVER THE INPUT: true; the input reads as it did. -/
def assocDoesSpec : ChangeSpec := { name := "assocDoes", fn := fun _ => fun
  | [d1, d2, d3] => { results := [.lit (.bool true)], args := [d1, d2, d3] }
  | _ => none }
def assocDoesRow : OpenClaim := { program := "ytolpjgpimholcaa", sum := "7c141db34c315dd6786feeba0e946146a5234d98ccc485441c50a07f87e1d26b", func := "tallboy/tallboylaw10.AssocDoes", spec := "assocDoes", unfollowed := true, recurses := true, apart := false }
def AssocDoesSaid : Prop := assocDoesRow.holds Try.pinned (OpenSpec.ofChange assocDoesSpec)

/-- ITS FALSE NEIGHBOUR: 'it returns false'. Refute it at one input. -/
def assocDoesWrong : ChangeSpec := { name := "assocDoes", fn := fun _ => fun
  | [d1, d2, d3] => { results := [.lit (.bool false)], args := [d1, d2, d3] }
  | _ => none }
def AssocDoesWrongFalsely : Prop := assocDoesRow.holds Try.pinned (OpenSpec.ofChange assocDoesWrong)

/-- 'tallboylaw11.GrowEnds': WHATEVER THE INPUT: true; the input reads as it did. -/
def growEndsSpec : ChangeSpec := { name := "growEnds", fn := fun _ => fun
  | [d1, d2] => { results := [.lit (.bool true)], args := [d1, d2] }
  | _ => none }
def growEndsRow : OpenClaim := { program := "ytolpjgpimholcaa", sum := "7c141db34c315dd6786feeba0e946146a5234d98ccc485441c50a07f87e1d26b", func := "tallboy/tallboylaw11.GrowEnds", spec := "growEnds", unfollowed := true, recurses := true, apart := false }
def GrowEndsSaid : Prop := growEndsRow.holds Try.pinned (OpenSpec.ofChange growEndsSpec)

/-- ITS FALSE NEIGHBOUR: 'it returns false'. Refute it at one input. -/
def growEndsWrong : ChangeSpec := { name := "growEnds", fn := fun _ => fun
  | [d1, d2] => { results := [.lit (.bool false)], args := [d1, d2] }
  | _ => none }
def GrowEndsWrongFalsely : Prop := growEndsRow.holds Try.pinned (OpenSpec.ofChange growEndsWrong)

/-- 'tallboylaw11.GrowSame': WHATEVER THE INPUT: true; the input reads as it did. -/
def growSameSpec : ChangeSpec := { name := "growSame", fn := fun _ => fun
  | [d] => { results := [.lit (.bool true)], args := [d] }
  | _ => none }
def growSameRow : OpenClaim := { program := "ytolpjgpimholcaa", sum := "7c141db34c315dd6786feeba0e946146a5234d98ccc485441c50a07f87e1d26b", func := "tallboy/tallboylaw11.GrowSame", spec := "growSame", unfollowed := true, recurses := true, apart := false }
def GrowSameSaid : Prop := growSameRow.holds Try.pinned (OpenSpec.ofChange growSameSpec)

/-- ITS FALSE NEIGHBOUR: 'it returns false'. Refute it at one input. -/
def growSameWrong : ChangeSpec := { name := "growSame", fn := fun _ => fun
  | [d] => { results := [.lit (.bool false)], args := [d] }
  | _ => none }
def GrowSameWrongFalsely : Prop := growSameRow.holds Try.pinned (OpenSpec.ofChange growSameWrong)

/-- 'tallboylaw11.GrowTwo': WHATEVER THE INPUT: true; the input reads as it did. -/
def growTwoSpec : ChangeSpec := { name := "growTwo", fn := fun _ => fun
  | [d1, d2] => { results := [.lit (.bool true)], args := [d1, d2] }
  | _ => none }
def growTwoRow : OpenClaim := { program := "ytolpjgpimholcaa", sum := "7c141db34c315dd6786feeba0e946146a5234d98ccc485441c50a07f87e1d26b", func := "tallboy/tallboylaw11.GrowTwo", spec := "growTwo", unfollowed := true, recurses := true, apart := false }
def GrowTwoSaid : Prop := growTwoRow.holds Try.pinned (OpenSpec.ofChange growTwoSpec)

/-- ITS FALSE NEIGHBOUR: 'it returns false'. Refute it at one input. -/
def growTwoWrong : ChangeSpec := { name := "growTwo", fn := fun _ => fun
  | [d1, d2] => { results := [.lit (.bool false)], args := [d1, d2] }
  | _ => none }
def GrowTwoWrongFalsely : Prop := growTwoRow.holds Try.pinned (OpenSpec.ofChange growTwoWrong)

/- THE SECOND FORM. 'bulk': how many values and letters a reading holds, each counted each time it is reached (what is shared counts as often as it is met; a slice's spare places count too). A statement '..UptoSaid' is the law's where the arguments, and the package variables that the reading takes, are together of bulk at most 1048576: NARROWER than '..Said'. Prove '..Said' where nothing that the law and all that it calls make is longer than what came in: it says more and counts as full. Else prove '..UptoSaid'. A law counts once. -/
mutual
def uptoBulk {H : Type} : DataW H → Nat
  | .lit (.string bytes) => bytes.length + 1
  | .lit _ => 1
  | .nil => 1
  | .ptr d => uptoBulk d + 1
  | .slice elems spare => uptoBulkAll elems + uptoBulkAll spare + 1
  | .agg parts => uptoBulkAll parts + 1
  | .iface _ d => uptoBulk d + 1
  | .map entries => uptoBulkEntries entries + 1
  | .held _ => 1
def uptoBulkAll {H : Type} : List (DataW H) → Nat
  | [] => 0
  | d :: r => uptoBulk d + uptoBulkAll r
def uptoBulkEntries {H : Type} : List (Lit × DataW H) → Nat
  | [] => 0
  | x :: r => uptoBulkEntry x + uptoBulkEntries r
def uptoBulkEntry {H : Type} : Lit × DataW H → Nat
  | (.string bytes, d) => bytes.length + uptoBulk d + 1
  | (_, d) => uptoBulk d + 1
 end
def uptoSmall : (H : Type) → List (DataW H) → Bool := fun _ ds => decide (uptoBulkAll ds ≤ 1048576)
def OpenSpec.upto (s : _root_.Go.ChangeSpec) : _root_.Go.OpenSpec := { _root_.Go.OpenSpec.ofChange s with cond := some uptoSmall }

/-- 'tallboylaw08.ItemBack', WHERE WHAT IT READS IS OF BULK AT MOST 1048576: true; the input reads as it did. -/
def itemBackUptoRow : OpenClaim := { program := "ytolpjgpimholcaa", sum := "7c141db34c315dd6786feeba0e946146a5234d98ccc485441c50a07f87e1d26b", func := "tallboy/tallboylaw08.ItemBack", spec := "itemBack", apart := false, narrowed := true }
def ItemBackUptoSaid : Prop := itemBackUptoRow.holds Try.pinned (OpenSpec.upto itemBackSpec)

/-- 'tallboylaw08.ItemFields', WHERE WHAT IT READS IS OF BULK AT MOST 1048576: true; the input reads as it did. -/
def itemFieldsUptoRow : OpenClaim := { program := "ytolpjgpimholcaa", sum := "7c141db34c315dd6786feeba0e946146a5234d98ccc485441c50a07f87e1d26b", func := "tallboy/tallboylaw08.ItemFields", spec := "itemFields", apart := false, narrowed := true }
def ItemFieldsUptoSaid : Prop := itemFieldsUptoRow.holds Try.pinned (OpenSpec.upto itemFieldsSpec)

/-- 'tallboylaw08.ItemNext', WHERE WHAT IT READS IS OF BULK AT MOST 1048576: true; the input reads as it did. -/
def itemNextUptoRow : OpenClaim := { program := "ytolpjgpimholcaa", sum := "7c141db34c315dd6786feeba0e946146a5234d98ccc485441c50a07f87e1d26b", func := "tallboy/tallboylaw08.ItemNext", spec := "itemNext", apart := false, narrowed := true }
def ItemNextUptoSaid : Prop := itemNextUptoRow.holds Try.pinned (OpenSpec.upto itemNextSpec)

/-- 'tallboylaw08.ItemTwo', WHERE WHAT IT READS IS OF BULK AT MOST 1048576: true; the input reads as it did. -/
def itemTwoUptoRow : OpenClaim := { program := "ytolpjgpimholcaa", sum := "7c141db34c315dd6786feeba0e946146a5234d98ccc485441c50a07f87e1d26b", func := "tallboy/tallboylaw08.ItemTwo", spec := "itemTwo", apart := false, narrowed := true }
def ItemTwoUptoSaid : Prop := itemTwoUptoRow.holds Try.pinned (OpenSpec.upto itemTwoSpec)

/-- 'tallboylaw10.AssocFinds', WHERE WHAT IT READS IS OF BULK AT MOST 1048576: true; the input reads as it did. -/
def assocFindsUptoRow : OpenClaim := { program := "ytolpjgpimholcaa", sum := "7c141db34c315dd6786feeba0e946146a5234d98ccc485441c50a07f87e1d26b", func := "tallboy/tallboylaw10.AssocFinds", spec := "assocFinds", unfollowed := true, recurses := true, apart := false, narrowed := true }
def AssocFindsUptoSaid : Prop := assocFindsUptoRow.holds Try.pinned (OpenSpec.upto assocFindsSpec)

/-- 'tallboylaw10.AssocThreads', WHERE WHAT IT READS IS OF BULK AT MOST 1048576: true; the input reads as it did. -/
def assocThreadsUptoRow : OpenClaim := { program := "ytolpjgpimholcaa", sum := "7c141db34c315dd6786feeba0e946146a5234d98ccc485441c50a07f87e1d26b", func := "tallboy/tallboylaw10.AssocThreads", spec := "assocThreads", unfollowed := true, recurses := true, apart := false, narrowed := true }
def AssocThreadsUptoSaid : Prop := assocThreadsUptoRow.holds Try.pinned (OpenSpec.upto assocThreadsSpec)

/-- 'tallboylaw10.AssocEmpties', WHERE WHAT IT READS IS OF BULK AT MOST 1048576: true; the input reads as it did. -/
def assocEmptiesUptoRow : OpenClaim := { program := "ytolpjgpimholcaa", sum := "7c141db34c315dd6786feeba0e946146a5234d98ccc485441c50a07f87e1d26b", func := "tallboy/tallboylaw10.AssocEmpties", spec := "assocEmpties", unfollowed := true, recurses := true, apart := false, narrowed := true }
def AssocEmptiesUptoSaid : Prop := assocEmptiesUptoRow.holds Try.pinned (OpenSpec.upto assocEmptiesSpec)

/-- 'tallboylaw10.AssocDoes', WHERE WHAT IT READS IS OF BULK AT MOST 1048576: true; the input reads as it did. -/
def assocDoesUptoRow : OpenClaim := { program := "ytolpjgpimholcaa", sum := "7c141db34c315dd6786feeba0e946146a5234d98ccc485441c50a07f87e1d26b", func := "tallboy/tallboylaw10.AssocDoes", spec := "assocDoes", unfollowed := true, recurses := true, apart := false, narrowed := true }
def AssocDoesUptoSaid : Prop := assocDoesUptoRow.holds Try.pinned (OpenSpec.upto assocDoesSpec)

/-- 'tallboylaw11.GrowEnds', WHERE WHAT IT READS IS OF BULK AT MOST 1048576: true; the input reads as it did. -/
def growEndsUptoRow : OpenClaim := { program := "ytolpjgpimholcaa", sum := "7c141db34c315dd6786feeba0e946146a5234d98ccc485441c50a07f87e1d26b", func := "tallboy/tallboylaw11.GrowEnds", spec := "growEnds", unfollowed := true, recurses := true, apart := false, narrowed := true }
def GrowEndsUptoSaid : Prop := growEndsUptoRow.holds Try.pinned (OpenSpec.upto growEndsSpec)

/-- 'tallboylaw11.GrowSame', WHERE WHAT IT READS IS OF BULK AT MOST 1048576: true; the input reads as it did. -/
def growSameUptoRow : OpenClaim := { program := "ytolpjgpimholcaa", sum := "7c141db34c315dd6786feeba0e946146a5234d98ccc485441c50a07f87e1d26b", func := "tallboy/tallboylaw11.GrowSame", spec := "growSame", unfollowed := true, recurses := true, apart := false, narrowed := true }
def GrowSameUptoSaid : Prop := growSameUptoRow.holds Try.pinned (OpenSpec.upto growSameSpec)

/-- 'tallboylaw11.GrowTwo', WHERE WHAT IT READS IS OF BULK AT MOST 1048576: true; the input reads as it did. -/
def growTwoUptoRow : OpenClaim := { program := "ytolpjgpimholcaa", sum := "7c141db34c315dd6786feeba0e946146a5234d98ccc485441c50a07f87e1d26b", func := "tallboy/tallboylaw11.GrowTwo", spec := "growTwo", unfollowed := true, recurses := true, apart := false, narrowed := true }
def GrowTwoUptoSaid : Prop := growTwoUptoRow.holds Try.pinned (OpenSpec.upto growTwoSpec)

end Rows
end Go.Proofs.Ytolpjgpimholcaa
