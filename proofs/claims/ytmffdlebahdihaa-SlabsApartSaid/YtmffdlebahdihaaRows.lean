/-
  No cell of these rows narrows 'for every input' (looked for: loops, veiled, ifaces, maps, wideKeys, modest, calm, conditions, laid).
  DERIVED. THE GIVEN ROWS OF THIS SEAT. 9 by the template 'for every input the law returns true; each argument reads behind the call as it read before'; 0 by the template 'total and deterministic' (their statements: YtmffdlebahdihaaTotals.lean).
  GIVEN WITH THE SEED: the statements are not yours to turn. If you find one false, say at which input.
  Laid BY PROGRAM, IN A SANDBOX (cutbox-rows.mjs): the forced cells as the released guide's own fill.sh prints them over the translation 0ac6f7762d5c1330… (all of the seat's roots in one cut). By AI agents, Wed Nov 11 2026. No macro, syntax, notation, axiom, sorry.
-/
import Derived.Test.YtmffdlebahdihaaChecked
import GoSem.Claim
import GoSem.ClaimJoined
import GoSem.ClaimMapViews
import Derived.JoinedTies
import Derived.KernelRfl
namespace Go.Proofs.Ytmffdlebahdihaa
/- THE CELL 'sum', in the pinned program and in every row, IS THE sha256 OF THE DUMP (.gsa) THAT YtmffdlebahdihaaProg.lean LOADS. Nothing in Lean hashes anything: it is a label: what it is worth is what the hold of that sum in a sandbox is worth. -/
noncomputable def Try.pinned : Pinned := { name := "ytmffdlebahdihaa", sum := "0ac6f7762d5c1330e6ad6eb16cbaae8ebda8660d319eb55b88fc8e588d18cebf", checked := Try.checked }
namespace Rows
def none {H : Type} : Left H := { results := [], args := [] }

/-- 'tallboylaw07.SlabsApart': WHATEVER THE INPUT: true; the input reads as it did. -/
def slabsApartSpec : ChangeSpec := { name := "slabsApart", fn := fun _ => fun
  | [d1, d2] => { results := [.lit (.bool true)], args := [d1, d2] }
  | _ => none }
def slabsApartRow : OpenClaim := { program := "ytmffdlebahdihaa", sum := "0ac6f7762d5c1330e6ad6eb16cbaae8ebda8660d319eb55b88fc8e588d18cebf", func := "tallboy/tallboylaw07.SlabsApart", spec := "slabsApart", unfollowed := true, recurses := true, apart := false }
def SlabsApartSaid : Prop := slabsApartRow.holds Try.pinned (OpenSpec.ofChange slabsApartSpec)

/-- ITS FALSE NEIGHBOUR: 'it returns false'. Refute it at one input. -/
def slabsApartWrong : ChangeSpec := { name := "slabsApart", fn := fun _ => fun
  | [d1, d2] => { results := [.lit (.bool false)], args := [d1, d2] }
  | _ => none }
def SlabsApartWrongFalsely : Prop := slabsApartRow.holds Try.pinned (OpenSpec.ofChange slabsApartWrong)

/-- 'tallboylaw07.SlabsList': WHATEVER THE INPUT: true; the input reads as it did. -/
def slabsListSpec : ChangeSpec := { name := "slabsList", fn := fun _ => fun
  | [d1, d2] => { results := [.lit (.bool true)], args := [d1, d2] }
  | _ => none }
def slabsListRow : OpenClaim := { program := "ytmffdlebahdihaa", sum := "0ac6f7762d5c1330e6ad6eb16cbaae8ebda8660d319eb55b88fc8e588d18cebf", func := "tallboy/tallboylaw07.SlabsList", spec := "slabsList", unfollowed := true, recurses := true, apart := false }
def SlabsListSaid : Prop := slabsListRow.holds Try.pinned (OpenSpec.ofChange slabsListSpec)

/-- ITS FALSE NEIGHBOUR: 'it returns false'. Refute it at one input. -/
def slabsListWrong : ChangeSpec := { name := "slabsList", fn := fun _ => fun
  | [d1, d2] => { results := [.lit (.bool false)], args := [d1, d2] }
  | _ => none }
def SlabsListWrongFalsely : Prop := slabsListRow.holds Try.pinned (OpenSpec.ofChange slabsListWrong)

/-- 'tallboylaw07.SlabsOwn': WHATEVER THE INPUT: true; the input reads as it did. -/
def slabsOwnSpec : ChangeSpec := { name := "slabsOwn", fn := fun _ => fun
  | [d1, d2] => { results := [.lit (.bool true)], args := [d1, d2] }
  | _ => none }
def slabsOwnRow : OpenClaim := { program := "ytmffdlebahdihaa", sum := "0ac6f7762d5c1330e6ad6eb16cbaae8ebda8660d319eb55b88fc8e588d18cebf", func := "tallboy/tallboylaw07.SlabsOwn", spec := "slabsOwn", unfollowed := true, recurses := true, apart := false }
def SlabsOwnSaid : Prop := slabsOwnRow.holds Try.pinned (OpenSpec.ofChange slabsOwnSpec)

/-- ITS FALSE NEIGHBOUR: 'it returns false'. Refute it at one input. -/
def slabsOwnWrong : ChangeSpec := { name := "slabsOwn", fn := fun _ => fun
  | [d1, d2] => { results := [.lit (.bool false)], args := [d1, d2] }
  | _ => none }
def SlabsOwnWrongFalsely : Prop := slabsOwnRow.holds Try.pinned (OpenSpec.ofChange slabsOwnWrong)

/-- 'tallboylaw07.SlabsMoves': WHATEVER THE INPUT: true; the input reads as it did. -/
def slabsMovesSpec : ChangeSpec := { name := "slabsMoves", fn := fun _ => fun
  | [d1, d2, d3] => { results := [.lit (.bool true)], args := [d1, d2, d3] }
  | _ => none }
def slabsMovesRow : OpenClaim := { program := "ytmffdlebahdihaa", sum := "0ac6f7762d5c1330e6ad6eb16cbaae8ebda8660d319eb55b88fc8e588d18cebf", func := "tallboy/tallboylaw07.SlabsMoves", spec := "slabsMoves", unfollowed := true, recurses := true, apart := false }
def SlabsMovesSaid : Prop := slabsMovesRow.holds Try.pinned (OpenSpec.ofChange slabsMovesSpec)

/-- ITS FALSE NEIGHBOUR: 'it returns false'. Refute it at one input. -/
def slabsMovesWrong : ChangeSpec := { name := "slabsMoves", fn := fun _ => fun
  | [d1, d2, d3] => { results := [.lit (.bool false)], args := [d1, d2, d3] }
  | _ => none }
def SlabsMovesWrongFalsely : Prop := slabsMovesRow.holds Try.pinned (OpenSpec.ofChange slabsMovesWrong)

/-- 'tallboylaw13.SegmentsOne': WHATEVER THE INPUT: true; the input reads as it did. -/
def segmentsOneSpec : ChangeSpec := { name := "segmentsOne", fn := fun _ => fun
  | [d] => { results := [.lit (.bool true)], args := [d] }
  | _ => none }
def segmentsOneRow : OpenClaim := { program := "ytmffdlebahdihaa", sum := "0ac6f7762d5c1330e6ad6eb16cbaae8ebda8660d319eb55b88fc8e588d18cebf", func := "tallboy/tallboylaw13.SegmentsOne", spec := "segmentsOne", unfollowed := true, recurses := true, apart := false }
def SegmentsOneSaid : Prop := segmentsOneRow.holds Try.pinned (OpenSpec.ofChange segmentsOneSpec)

/-- ITS FALSE NEIGHBOUR: 'it returns false'. Refute it at one input. -/
def segmentsOneWrong : ChangeSpec := { name := "segmentsOne", fn := fun _ => fun
  | [d] => { results := [.lit (.bool false)], args := [d] }
  | _ => none }
def SegmentsOneWrongFalsely : Prop := segmentsOneRow.holds Try.pinned (OpenSpec.ofChange segmentsOneWrong)

/-- 'tallboylaw13.SegmentsEnds': WHATEVER THE INPUT: true; the input reads as it did. -/
def segmentsEndsSpec : ChangeSpec := { name := "segmentsEnds", fn := fun _ => fun
  | [d] => { results := [.lit (.bool true)], args := [d] }
  | _ => none }
def segmentsEndsRow : OpenClaim := { program := "ytmffdlebahdihaa", sum := "0ac6f7762d5c1330e6ad6eb16cbaae8ebda8660d319eb55b88fc8e588d18cebf", func := "tallboy/tallboylaw13.SegmentsEnds", spec := "segmentsEnds", unfollowed := true, recurses := true, apart := false }
def SegmentsEndsSaid : Prop := segmentsEndsRow.holds Try.pinned (OpenSpec.ofChange segmentsEndsSpec)

/-- ITS FALSE NEIGHBOUR: 'it returns false'. Refute it at one input. -/
def segmentsEndsWrong : ChangeSpec := { name := "segmentsEnds", fn := fun _ => fun
  | [d] => { results := [.lit (.bool false)], args := [d] }
  | _ => none }
def SegmentsEndsWrongFalsely : Prop := segmentsEndsRow.holds Try.pinned (OpenSpec.ofChange segmentsEndsWrong)

/-- 'tallboylaw13.SegmentsUsed': WHATEVER THE INPUT: true; the input reads as it did. -/
def segmentsUsedSpec : ChangeSpec := { name := "segmentsUsed", fn := fun _ => fun
  | [d1, d2] => { results := [.lit (.bool true)], args := [d1, d2] }
  | _ => none }
def segmentsUsedRow : OpenClaim := { program := "ytmffdlebahdihaa", sum := "0ac6f7762d5c1330e6ad6eb16cbaae8ebda8660d319eb55b88fc8e588d18cebf", func := "tallboy/tallboylaw13.SegmentsUsed", spec := "segmentsUsed", unfollowed := true, recurses := true, apart := false }
def SegmentsUsedSaid : Prop := segmentsUsedRow.holds Try.pinned (OpenSpec.ofChange segmentsUsedSpec)

/-- ITS FALSE NEIGHBOUR: 'it returns false'. Refute it at one input. -/
def segmentsUsedWrong : ChangeSpec := { name := "segmentsUsed", fn := fun _ => fun
  | [d1, d2] => { results := [.lit (.bool false)], args := [d1, d2] }
  | _ => none }
def SegmentsUsedWrongFalsely : Prop := segmentsUsedRow.holds Try.pinned (OpenSpec.ofChange segmentsUsedWrong)

/-- 'tallboylaw13.SegmentsVictims': WHATEVER THE INPUT: true; the input reads as it did. -/
def segmentsVictimsSpec : ChangeSpec := { name := "segmentsVictims", fn := fun _ => fun
  | [d1, d2] => { results := [.lit (.bool true)], args := [d1, d2] }
  | _ => none }
def segmentsVictimsRow : OpenClaim := { program := "ytmffdlebahdihaa", sum := "0ac6f7762d5c1330e6ad6eb16cbaae8ebda8660d319eb55b88fc8e588d18cebf", func := "tallboy/tallboylaw13.SegmentsVictims", spec := "segmentsVictims", unfollowed := true, recurses := true, apart := false }
def SegmentsVictimsSaid : Prop := segmentsVictimsRow.holds Try.pinned (OpenSpec.ofChange segmentsVictimsSpec)

/-- ITS FALSE NEIGHBOUR: 'it returns false'. Refute it at one input. -/
def segmentsVictimsWrong : ChangeSpec := { name := "segmentsVictims", fn := fun _ => fun
  | [d1, d2] => { results := [.lit (.bool false)], args := [d1, d2] }
  | _ => none }
def SegmentsVictimsWrongFalsely : Prop := segmentsVictimsRow.holds Try.pinned (OpenSpec.ofChange segmentsVictimsWrong)

/-- 'tallboylaw13.SegmentsCold': WHATEVER THE INPUT: true; the input reads as it did. -/
def segmentsColdSpec : ChangeSpec := { name := "segmentsCold", fn := fun _ => fun
  | [d1, d2] => { results := [.lit (.bool true)], args := [d1, d2] }
  | _ => none }
def segmentsColdRow : OpenClaim := { program := "ytmffdlebahdihaa", sum := "0ac6f7762d5c1330e6ad6eb16cbaae8ebda8660d319eb55b88fc8e588d18cebf", func := "tallboy/tallboylaw13.SegmentsCold", spec := "segmentsCold", unfollowed := true, recurses := true, apart := false }
def SegmentsColdSaid : Prop := segmentsColdRow.holds Try.pinned (OpenSpec.ofChange segmentsColdSpec)

/-- ITS FALSE NEIGHBOUR: 'it returns false'. Refute it at one input. -/
def segmentsColdWrong : ChangeSpec := { name := "segmentsCold", fn := fun _ => fun
  | [d1, d2] => { results := [.lit (.bool false)], args := [d1, d2] }
  | _ => none }
def SegmentsColdWrongFalsely : Prop := segmentsColdRow.holds Try.pinned (OpenSpec.ofChange segmentsColdWrong)

/- THE SECOND FORM. 'bulk': how many values and letters a reading holds, each counted each time it is reached (what is shared counts as often as it is met; a slice's spare places count too). A statement '..UptoSaid' is the law's where the arguments, and the package variables that the reading takes, are together of bulk at most 1048576: NARROWER than '..Said'. Prove '..Said' where nothing that the law and all that it calls make is longer than what came in: it says more and counts as full. Else prove '..UptoSaid'. A law counts once. -/
mutual
def uptoBulk {H : Type} : DataW H → Nat
  | .lit (.string bytes) => bytes.length + 1
  | .lit _ => 1
  | .nil => 1
  | .ptr d => uptoBulk d + 1
  | .slice elems spare => uptoBulkAll elems + uptoBulkAll spare + 1
  | .agg parts => uptoBulkAll parts + 1
  | .iface _ d => uptoBulk d + 1
  | .map entries => uptoBulkEntries entries + 1
  | .held _ => 1
def uptoBulkAll {H : Type} : List (DataW H) → Nat
  | [] => 0
  | d :: r => uptoBulk d + uptoBulkAll r
def uptoBulkEntries {H : Type} : List (Lit × DataW H) → Nat
  | [] => 0
  | x :: r => uptoBulkEntry x + uptoBulkEntries r
def uptoBulkEntry {H : Type} : Lit × DataW H → Nat
  | (.string bytes, d) => bytes.length + uptoBulk d + 1
  | (_, d) => uptoBulk d + 1
 end
def uptoSmall : (H : Type) → List (DataW H) → Bool := fun _ ds => decide (uptoBulkAll ds ≤ 1048576)
def OpenSpec.upto (s : _root_.Go.ChangeSpec) : _root_.Go.OpenSpec := { _root_.Go.OpenSpec.ofChange s with cond := some uptoSmall }

/-- 'tallboylaw07.SlabsApart', WHERE WHAT IT READS IS OF BULK AT MOST 1048576: true; the input reads as it did. -/
def slabsApartUptoRow : OpenClaim := { program := "ytmffdlebahdihaa", sum := "0ac6f7762d5c1330e6ad6eb16cbaae8ebda8660d319eb55b88fc8e588d18cebf", func := "tallboy/tallboylaw07.SlabsApart", spec := "slabsApart", unfollowed := true, recurses := true, apart := false, narrowed := true }
def SlabsApartUptoSaid : Prop := slabsApartUptoRow.holds Try.pinned (OpenSpec.upto slabsApartSpec)

/-- 'tallboylaw07.SlabsList', WHERE WHAT IT READS IS OF BULK AT MOST 1048576: true; the input reads as it did. -/
def slabsListUptoRow : OpenClaim := { program := "ytmffdlebahdihaa", sum := "0ac6f7762d5c1330e6ad6eb16cbaae8ebda8660d319eb55b88fc8e588d18cebf", func := "tallboy/tallboylaw07.SlabsList", spec := "slabsList", unfollowed := true, recurses := true, apart := false, narrowed := true }
def SlabsListUptoSaid : Prop := slabsListUptoRow.holds Try.pinned (OpenSpec.upto slabsListSpec)

/-- 'tallboylaw07.SlabsOwn', WHERE WHAT IT READS IS OF BULK AT MOST 1048576: true; the input reads as it did. -/
def slabsOwnUptoRow : OpenClaim := { program := "ytmffdlebahdihaa", sum := "0ac6f7762d5c1330e6ad6eb16cbaae8ebda8660d319eb55b88fc8e588d18cebf", func := "tallboy/tallboylaw07.SlabsOwn", spec := "slabsOwn", unfollowed := true, recurses := true, apart := false, narrowed := true }
def SlabsOwnUptoSaid : Prop := slabsOwnUptoRow.holds Try.pinned (OpenSpec.upto slabsOwnSpec)

/-- 'tallboylaw07.SlabsMoves', WHERE WHAT IT READS IS OF BULK AT MOST 1048576: true; the input reads as it did. -/
def slabsMovesUptoRow : OpenClaim := { program := "ytmffdlebahdihaa", sum := "0ac6f7762d5c1330e6ad6eb16cbaae8ebda8660d319eb55b88fc8e588d18cebf", func := "tallboy/tallboylaw07.SlabsMoves", spec := "slabsMoves", unfollowed := true, recurses := true, apart := false, narrowed := true }
def SlabsMovesUptoSaid : Prop := slabsMovesUptoRow.holds Try.pinned (OpenSpec.upto slabsMovesSpec)

/-- 'tallboylaw13.SegmentsOne', WHERE WHAT IT READS IS OF BULK AT MOST 1048576: true; the input reads as it did. -/
def segmentsOneUptoRow : OpenClaim := { program := "ytmffdlebahdihaa", sum := "0ac6f7762d5c1330e6ad6eb16cbaae8ebda8660d319eb55b88fc8e588d18cebf", func := "tallboy/tallboylaw13.SegmentsOne", spec := "segmentsOne", unfollowed := true, recurses := true, apart := false, narrowed := true }
def SegmentsOneUptoSaid : Prop := segmentsOneUptoRow.holds Try.pinned (OpenSpec.upto segmentsOneSpec)

/-- 'tallboylaw13.SegmentsEnds', WHERE WHAT IT READS IS OF BULK AT MOST 1048576: true; the input reads as it did. -/
def segmentsEndsUptoRow : OpenClaim := { program := "ytmffdlebahdihaa", sum := "0ac6f7762d5c1330e6ad6eb16cbaae8ebda8660d319eb55b88fc8e588d18cebf", func := "tallboy/tallboylaw13.SegmentsEnds", spec := "segmentsEnds", unfollowed := true, recurses := true, apart := false, narrowed := true }
def SegmentsEndsUptoSaid : Prop := segmentsEndsUptoRow.holds Try.pinned (OpenSpec.upto segmentsEndsSpec)

/-- 'tallboylaw13.SegmentsUsed', WHERE WHAT IT READS IS OF BULK AT MOST 1048576: true; the input reads as it did. -/
def segmentsUsedUptoRow : OpenClaim := { program := "ytmffdlebahdihaa", sum := "0ac6f7762d5c1330e6ad6eb16cbaae8ebda8660d319eb55b88fc8e588d18cebf", func := "tallboy/tallboylaw13.SegmentsUsed", spec := "segmentsUsed", unfollowed := true, recurses := true, apart := false, narrowed := true }
def SegmentsUsedUptoSaid : Prop := segmentsUsedUptoRow.holds Try.pinned (OpenSpec.upto segmentsUsedSpec)

/-- 'tallboylaw13.SegmentsVictims', WHERE WHAT IT READS IS OF BULK AT MOST 1048576: true; the input reads as it did. -/
def segmentsVictimsUptoRow : OpenClaim := { program := "ytmffdlebahdihaa", sum := "0ac6f7762d5c1330e6ad6eb16cbaae8ebda8660d319eb55b88fc8e588d18cebf", func := "tallboy/tallboylaw13.SegmentsVictims", spec := "segmentsVictims", unfollowed := true, recurses := true, apart := false, narrowed := true }
def SegmentsVictimsUptoSaid : Prop := segmentsVictimsUptoRow.holds Try.pinned (OpenSpec.upto segmentsVictimsSpec)

/-- 'tallboylaw13.SegmentsCold', WHERE WHAT IT READS IS OF BULK AT MOST 1048576: true; the input reads as it did. -/
def segmentsColdUptoRow : OpenClaim := { program := "ytmffdlebahdihaa", sum := "0ac6f7762d5c1330e6ad6eb16cbaae8ebda8660d319eb55b88fc8e588d18cebf", func := "tallboy/tallboylaw13.SegmentsCold", spec := "segmentsCold", unfollowed := true, recurses := true, apart := false, narrowed := true }
def SegmentsColdUptoSaid : Prop := segmentsColdUptoRow.holds Try.pinned (OpenSpec.upto segmentsColdSpec)

end Rows
end Go.Proofs.Ytmffdlebahdihaa
