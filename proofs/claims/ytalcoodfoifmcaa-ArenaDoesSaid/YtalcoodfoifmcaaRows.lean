/-
  No cell of these rows narrows 'for every input' (looked for: loops, veiled, ifaces, maps, wideKeys, modest, calm, conditions, laid).
  DERIVED. THE GIVEN ROWS OF THIS SEAT. 5 by the template 'for every input the law returns true; each argument reads behind the call as it read before'; 0 by the template 'total and deterministic' (their statements: YtalcoodfoifmcaaTotals.lean).
  GIVEN WITH THE SEED: the statements are not yours to turn. If you find one false, say at which input.
  Laid BY PROGRAM, IN A SANDBOX (cutbox-rows.mjs): the forced cells as the released guide's own fill.sh prints them over the translation 2dd9af9d65ab5e78… (all of the seat's roots in one cut). By AI agents, Wed Nov 11 2026. No macro, syntax, notation, axiom, sorry.
-/
import Derived.Test.YtalcoodfoifmcaaChecked
import GoSem.Claim
import GoSem.ClaimJoined
import GoSem.ClaimMapViews
import Derived.JoinedTies
import Derived.KernelRfl
namespace Go.Proofs.Ytalcoodfoifmcaa
/- THE CELL 'sum', in the pinned program and in every row, IS THE sha256 OF THE DUMP (.gsa) THAT YtalcoodfoifmcaaProg.lean LOADS. Nothing in Lean hashes anything: it is a label: what it is worth is what the hold of that sum in a sandbox is worth. -/
noncomputable def Try.pinned : Pinned := { name := "ytalcoodfoifmcaa", sum := "2dd9af9d65ab5e78531a3148591dd4f027a7f8ee1d067bca9731b36d67d84a3a", checked := Try.checked }
namespace Rows
def none {H : Type} : Left H := { results := [], args := [] }

/-- 'tallboylaw05.ArenaKeeps': WHATEVER THE INPUT: true; the input reads as it did. -/
def arenaKeepsSpec : ChangeSpec := { name := "arenaKeeps", fn := fun _ => fun
  | [d1, d2, d3] => { results := [.lit (.bool true)], args := [d1, d2, d3] }
  | _ => none }
def arenaKeepsRow : OpenClaim := { program := "ytalcoodfoifmcaa", sum := "2dd9af9d65ab5e78531a3148591dd4f027a7f8ee1d067bca9731b36d67d84a3a", func := "tallboy/tallboylaw05.ArenaKeeps", spec := "arenaKeeps", apart := false }
def ArenaKeepsSaid : Prop := arenaKeepsRow.holds Try.pinned (OpenSpec.ofChange arenaKeepsSpec)

/-- ITS FALSE NEIGHBOUR: 'it returns false'. Refute it at one input. -/
def arenaKeepsWrong : ChangeSpec := { name := "arenaKeeps", fn := fun _ => fun
  | [d1, d2, d3] => { results := [.lit (.bool false)], args := [d1, d2, d3] }
  | _ => none }
def ArenaKeepsWrongFalsely : Prop := arenaKeepsRow.holds Try.pinned (OpenSpec.ofChange arenaKeepsWrong)

/-- 'tallboylaw05.ArenaClean': WHATEVER THE INPUT: true; the input reads as it did. -/
def arenaCleanSpec : ChangeSpec := { name := "arenaClean", fn := fun _ => fun
  | [d1, d2, d3, d4] => { results := [.lit (.bool true)], args := [d1, d2, d3, d4] }
  | _ => none }
def arenaCleanRow : OpenClaim := { program := "ytalcoodfoifmcaa", sum := "2dd9af9d65ab5e78531a3148591dd4f027a7f8ee1d067bca9731b36d67d84a3a", func := "tallboy/tallboylaw05.ArenaClean", spec := "arenaClean", apart := false }
def ArenaCleanSaid : Prop := arenaCleanRow.holds Try.pinned (OpenSpec.ofChange arenaCleanSpec)

/-- ITS FALSE NEIGHBOUR: 'it returns false'. Refute it at one input. -/
def arenaCleanWrong : ChangeSpec := { name := "arenaClean", fn := fun _ => fun
  | [d1, d2, d3, d4] => { results := [.lit (.bool false)], args := [d1, d2, d3, d4] }
  | _ => none }
def ArenaCleanWrongFalsely : Prop := arenaCleanRow.holds Try.pinned (OpenSpec.ofChange arenaCleanWrong)

/-- 'tallboylaw05.ArenaEnds': WHATEVER THE INPUT: true; the input reads as it did. -/
def arenaEndsSpec : ChangeSpec := { name := "arenaEnds", fn := fun _ => fun
  | [d1, d2] => { results := [.lit (.bool true)], args := [d1, d2] }
  | _ => none }
def arenaEndsRow : OpenClaim := { program := "ytalcoodfoifmcaa", sum := "2dd9af9d65ab5e78531a3148591dd4f027a7f8ee1d067bca9731b36d67d84a3a", func := "tallboy/tallboylaw05.ArenaEnds", spec := "arenaEnds", apart := false }
def ArenaEndsSaid : Prop := arenaEndsRow.holds Try.pinned (OpenSpec.ofChange arenaEndsSpec)

/-- ITS FALSE NEIGHBOUR: 'it returns false'. Refute it at one input. -/
def arenaEndsWrong : ChangeSpec := { name := "arenaEnds", fn := fun _ => fun
  | [d1, d2] => { results := [.lit (.bool false)], args := [d1, d2] }
  | _ => none }
def ArenaEndsWrongFalsely : Prop := arenaEndsRow.holds Try.pinned (OpenSpec.ofChange arenaEndsWrong)

/-- 'tallboylaw05.ArenaPages': WHATEVER THE INPUT: true; the input reads as it did. -/
def arenaPagesSpec : ChangeSpec := { name := "arenaPages", fn := fun _ => fun
  | [d1, d2] => { results := [.lit (.bool true)], args := [d1, d2] }
  | _ => none }
def arenaPagesRow : OpenClaim := { program := "ytalcoodfoifmcaa", sum := "2dd9af9d65ab5e78531a3148591dd4f027a7f8ee1d067bca9731b36d67d84a3a", func := "tallboy/tallboylaw05.ArenaPages", spec := "arenaPages", apart := false }
def ArenaPagesSaid : Prop := arenaPagesRow.holds Try.pinned (OpenSpec.ofChange arenaPagesSpec)

/-- ITS FALSE NEIGHBOUR: 'it returns false'. Refute it at one input. -/
def arenaPagesWrong : ChangeSpec := { name := "arenaPages", fn := fun _ => fun
  | [d1, d2] => { results := [.lit (.bool false)], args := [d1, d2] }
  | _ => none }
def ArenaPagesWrongFalsely : Prop := arenaPagesRow.holds Try.pinned (OpenSpec.ofChange arenaPagesWrong)

/-- 'tallboylaw05.ArenaDoes': WHATEVER THE INPUT: true; the input reads as it did. -/
def arenaDoesSpec : ChangeSpec := { name := "arenaDoes", fn := fun _ => fun
  | [d1, d2] => { results := [.lit (.bool true)], args := [d1, d2] }
  | _ => none }
def arenaDoesRow : OpenClaim := { program := "ytalcoodfoifmcaa", sum := "2dd9af9d65ab5e78531a3148591dd4f027a7f8ee1d067bca9731b36d67d84a3a", func := "tallboy/tallboylaw05.ArenaDoes", spec := "arenaDoes", apart := false }
def ArenaDoesSaid : Prop := arenaDoesRow.holds Try.pinned (OpenSpec.ofChange arenaDoesSpec)

/-- ITS FALSE NEIGHBOUR: 'it returns false'. Refute it at one input. -/
def arenaDoesWrong : ChangeSpec := { name := "arenaDoes", fn := fun _ => fun
  | [d1, d2] => { results := [.lit (.bool false)], args := [d1, d2] }
  | _ => none }
def ArenaDoesWrongFalsely : Prop := arenaDoesRow.holds Try.pinned (OpenSpec.ofChange arenaDoesWrong)

/- THE SECOND FORM. 'bulk': how many values and letters a reading holds, each counted each time it is reached (what is shared counts as often as it is met; a slice's spare places count too). A statement '..UptoSaid' is the law's where the arguments, and the package variables that the reading takes, are together of bulk at most 1048576: NARROWER than '..Said'. Prove '..Said' where nothing that the law and all that it calls make is longer than what came in: it says more and counts as full. Else prove '..UptoSaid'. A law counts once. -/
mutual
def uptoBulk {H : Type} : DataW H → Nat
  | .lit (.string bytes) => bytes.length + 1
  | .lit _ => 1
  | .nil => 1
  | .ptr d => uptoBulk d + 1
  | .slice elems spare => uptoBulkAll elems + uptoBulkAll spare + 1
  | .agg parts => uptoBulkAll parts + 1
  | .iface _ d => uptoBulk d + 1
  | .map entries => uptoBulkEntries entries + 1
  | .held _ => 1
def uptoBulkAll {H : Type} : List (DataW H) → Nat
  | [] => 0
  | d :: r => uptoBulk d + uptoBulkAll r
def uptoBulkEntries {H : Type} : List (Lit × DataW H) → Nat
  | [] => 0
  | x :: r => uptoBulkEntry x + uptoBulkEntries r
def uptoBulkEntry {H : Type} : Lit × DataW H → Nat
  | (.string bytes, d) => bytes.length + uptoBulk d + 1
  | (_, d) => uptoBulk d + 1
 end
def uptoSmall : (H : Type) → List (DataW H) → Bool := fun _ ds => decide (uptoBulkAll ds ≤ 1048576)
def OpenSpec.upto (s : _root_.Go.ChangeSpec) : _root_.Go.OpenSpec := { _root_.Go.OpenSpec.ofChange s with cond := some uptoSmall }

/-- 'tallboylaw05.ArenaKeeps', WHERE WHAT IT READS IS OF BULK AT MOST 1048576: true; the input reads as it did. -/
def arenaKeepsUptoRow : OpenClaim := { program := "ytalcoodfoifmcaa", sum := "2dd9af9d65ab5e78531a3148591dd4f027a7f8ee1d067bca9731b36d67d84a3a", func := "tallboy/tallboylaw05.ArenaKeeps", spec := "arenaKeeps", apart := false, narrowed := true }
def ArenaKeepsUptoSaid : Prop := arenaKeepsUptoRow.holds Try.pinned (OpenSpec.upto arenaKeepsSpec)

/-- 'tallboylaw05.ArenaClean', WHERE WHAT IT READS IS OF BULK AT MOST 1048576: true; the input reads as it did. -/
def arenaCleanUptoRow : OpenClaim := { program := "ytalcoodfoifmcaa", sum := "2dd9af9d65ab5e78531a3148591dd4f027a7f8ee1d067bca9731b36d67d84a3a", func := "tallboy/tallboylaw05.ArenaClean", spec := "arenaClean", apart := false, narrowed := true }
def ArenaCleanUptoSaid : Prop := arenaCleanUptoRow.holds Try.pinned (OpenSpec.upto arenaCleanSpec)

/-- 'tallboylaw05.ArenaEnds', WHERE WHAT IT READS IS OF BULK AT MOST 1048576: true; the input reads as it did. -/
def arenaEndsUptoRow : OpenClaim := { program := "ytalcoodfoifmcaa", sum := "2dd9af9d65ab5e78531a3148591dd4f027a7f8ee1d067bca9731b36d67d84a3a", func := "tallboy/tallboylaw05.ArenaEnds", spec := "arenaEnds", apart := false, narrowed := true }
def ArenaEndsUptoSaid : Prop := arenaEndsUptoRow.holds Try.pinned (OpenSpec.upto arenaEndsSpec)

/-- 'tallboylaw05.ArenaPages', WHERE WHAT IT READS IS OF BULK AT MOST 1048576: true; the input reads as it did. -/
def arenaPagesUptoRow : OpenClaim := { program := "ytalcoodfoifmcaa", sum := "2dd9af9d65ab5e78531a3148591dd4f027a7f8ee1d067bca9731b36d67d84a3a", func := "tallboy/tallboylaw05.ArenaPages", spec := "arenaPages", apart := false, narrowed := true }
def ArenaPagesUptoSaid : Prop := arenaPagesUptoRow.holds Try.pinned (OpenSpec.upto arenaPagesSpec)

/-- 'tallboylaw05.ArenaDoes', WHERE WHAT IT READS IS OF BULK AT MOST 1048576: true; the input reads as it did. -/
def arenaDoesUptoRow : OpenClaim := { program := "ytalcoodfoifmcaa", sum := "2dd9af9d65ab5e78531a3148591dd4f027a7f8ee1d067bca9731b36d67d84a3a", func := "tallboy/tallboylaw05.ArenaDoes", spec := "arenaDoes", apart := false, narrowed := true }
def ArenaDoesUptoSaid : Prop := arenaDoesUptoRow.holds Try.pinned (OpenSpec.upto arenaDoesSpec)

end Rows
end Go.Proofs.Ytalcoodfoifmcaa
