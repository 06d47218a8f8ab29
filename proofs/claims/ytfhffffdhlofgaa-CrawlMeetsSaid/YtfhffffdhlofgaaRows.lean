/-
  No cell of these rows narrows 'for every input' (looked for: loops, veiled, ifaces, maps, wideKeys, modest, calm, conditions, laid).
  DERIVED. THE GIVEN ROWS OF THIS SEAT. 9 by the template 'for every input the law returns true; each argument reads behind the call as it read before'; 0 by the template 'total and deterministic' (their statements: YtfhffffdhlofgaaTotals.lean).
  GIVEN WITH THE SEED: the statements are not yours to turn. If you find one false, say at which input.
  Laid BY PROGRAM, IN A SANDBOX (cutbox-rows.mjs): the forced cells as the released guide's own fill.sh prints them over the translation 301fe8fe01755f83… (all of the seat's roots in one cut). By AI agents, Wed Nov 11 2026. No macro, syntax, notation, axiom, sorry.
-/
import Derived.Test.YtfhffffdhlofgaaChecked
import GoSem.Claim
import GoSem.ClaimJoined
import GoSem.ClaimMapViews
import Derived.JoinedTies
import Derived.KernelRfl
namespace Go.Proofs.Ytfhffffdhlofgaa
/- THE CELL 'sum', in the pinned program and in every row, IS THE sha256 OF THE DUMP (.gsa) THAT YtfhffffdhlofgaaProg.lean LOADS. Nothing in Lean hashes anything: it is a label: what it is worth is what the hold of that sum in a sandbox is worth. -/
noncomputable def Try.pinned : Pinned := { name := "ytfhffffdhlofgaa", sum := "301fe8fe01755f8399bad3f814a157efc661a146f93e2b1bf812ce3d28528782", checked := Try.checked }
namespace Rows
def none {H : Type} : Left H := { results := [], args := [] }

/-- 'tallboylaw09.LinksOrder': WHATEVER THE INPUT: true; the input reads as it did. -/
def linksOrderSpec : ChangeSpec := { name := "linksOrder", fn := fun _ => fun
  | [d] => { results := [.lit (.bool true)], args := [d] }
  | _ => none }
def linksOrderRow : OpenClaim := { program := "ytfhffffdhlofgaa", sum := "301fe8fe01755f8399bad3f814a157efc661a146f93e2b1bf812ce3d28528782", func := "tallboy/tallboylaw09.LinksOrder", spec := "linksOrder", unfollowed := true, recurses := true, apart := false }
def LinksOrderSaid : Prop := linksOrderRow.holds Try.pinned (OpenSpec.ofChange linksOrderSpec)

/-- ITS FALSE NEIGHBOUR: 'it returns false'. Refute it at one input. -/
def linksOrderWrong : ChangeSpec := { name := "linksOrder", fn := fun _ => fun
  | [d] => { results := [.lit (.bool false)], args := [d] }
  | _ => none }
def LinksOrderWrongFalsely : Prop := linksOrderRow.holds Try.pinned (OpenSpec.ofChange linksOrderWrong)

/-- 'tallboylaw09.LinksInserts': WHATEVER THE INPUT: true; the input reads as it did. -/
def linksInsertsSpec : ChangeSpec := { name := "linksInserts", fn := fun _ => fun
  | [d1, d2] => { results := [.lit (.bool true)], args := [d1, d2] }
  | _ => none }
def linksInsertsRow : OpenClaim := { program := "ytfhffffdhlofgaa", sum := "301fe8fe01755f8399bad3f814a157efc661a146f93e2b1bf812ce3d28528782", func := "tallboy/tallboylaw09.LinksInserts", spec := "linksInserts", unfollowed := true, recurses := true, apart := false }
def LinksInsertsSaid : Prop := linksInsertsRow.holds Try.pinned (OpenSpec.ofChange linksInsertsSpec)

/-- ITS FALSE NEIGHBOUR: 'it returns false'. Refute it at one input. -/
def linksInsertsWrong : ChangeSpec := { name := "linksInserts", fn := fun _ => fun
  | [d1, d2] => { results := [.lit (.bool false)], args := [d1, d2] }
  | _ => none }
def LinksInsertsWrongFalsely : Prop := linksInsertsRow.holds Try.pinned (OpenSpec.ofChange linksInsertsWrong)

/-- 'tallboylaw09.LinksThreads': WHATEVER THE INPUT: true; the input reads as it did. -/
def linksThreadsSpec : ChangeSpec := { name := "linksThreads", fn := fun _ => fun
  | [d] => { results := [.lit (.bool true)], args := [d] }
  | _ => none }
def linksThreadsRow : OpenClaim := { program := "ytfhffffdhlofgaa", sum := "301fe8fe01755f8399bad3f814a157efc661a146f93e2b1bf812ce3d28528782", func := "tallboy/tallboylaw09.LinksThreads", spec := "linksThreads", unfollowed := true, recurses := true, apart := false }
def LinksThreadsSaid : Prop := linksThreadsRow.holds Try.pinned (OpenSpec.ofChange linksThreadsSpec)

/-- ITS FALSE NEIGHBOUR: 'it returns false'. Refute it at one input. -/
def linksThreadsWrong : ChangeSpec := { name := "linksThreads", fn := fun _ => fun
  | [d] => { results := [.lit (.bool false)], args := [d] }
  | _ => none }
def LinksThreadsWrongFalsely : Prop := linksThreadsRow.holds Try.pinned (OpenSpec.ofChange linksThreadsWrong)

/-- 'tallboylaw09.LinksWalk': WHATEVER THE INPUT: true; the input reads as it did. -/
def linksWalkSpec : ChangeSpec := { name := "linksWalk", fn := fun _ => fun
  | [d] => { results := [.lit (.bool true)], args := [d] }
  | _ => none }
def linksWalkRow : OpenClaim := { program := "ytfhffffdhlofgaa", sum := "301fe8fe01755f8399bad3f814a157efc661a146f93e2b1bf812ce3d28528782", func := "tallboy/tallboylaw09.LinksWalk", spec := "linksWalk", unfollowed := true, recurses := true, apart := false }
def LinksWalkSaid : Prop := linksWalkRow.holds Try.pinned (OpenSpec.ofChange linksWalkSpec)

/-- ITS FALSE NEIGHBOUR: 'it returns false'. Refute it at one input. -/
def linksWalkWrong : ChangeSpec := { name := "linksWalk", fn := fun _ => fun
  | [d] => { results := [.lit (.bool false)], args := [d] }
  | _ => none }
def LinksWalkWrongFalsely : Prop := linksWalkRow.holds Try.pinned (OpenSpec.ofChange linksWalkWrong)

/-- 'tallboylaw09.LinksDoes': WHATEVER THE INPUT: true; the input reads as it did. -/
def linksDoesSpec : ChangeSpec := { name := "linksDoes", fn := fun _ => fun
  | [d] => { results := [.lit (.bool true)], args := [d] }
  | _ => none }
def linksDoesRow : OpenClaim := { program := "ytfhffffdhlofgaa", sum := "301fe8fe01755f8399bad3f814a157efc661a146f93e2b1bf812ce3d28528782", func := "tallboy/tallboylaw09.LinksDoes", spec := "linksDoes", unfollowed := true, recurses := true, apart := false }
def LinksDoesSaid : Prop := linksDoesRow.holds Try.pinned (OpenSpec.ofChange linksDoesSpec)

/-- ITS FALSE NEIGHBOUR: 'it returns false'. Refute it at one input. -/
def linksDoesWrong : ChangeSpec := { name := "linksDoes", fn := fun _ => fun
  | [d] => { results := [.lit (.bool false)], args := [d] }
  | _ => none }
def LinksDoesWrongFalsely : Prop := linksDoesRow.holds Try.pinned (OpenSpec.ofChange linksDoesWrong)

/-- 'tallboylaw14.CrawlStops': WHATEVER THE INPUT: true; the input reads as it did. -/
def crawlStopsSpec : ChangeSpec := { name := "crawlStops", fn := fun _ => fun
  | [d1, d2] => { results := [.lit (.bool true)], args := [d1, d2] }
  | _ => none }
def crawlStopsRow : OpenClaim := { program := "ytfhffffdhlofgaa", sum := "301fe8fe01755f8399bad3f814a157efc661a146f93e2b1bf812ce3d28528782", func := "tallboy/tallboylaw14.CrawlStops", spec := "crawlStops", unfollowed := true, recurses := true, apart := false }
def CrawlStopsSaid : Prop := crawlStopsRow.holds Try.pinned (OpenSpec.ofChange crawlStopsSpec)

/-- ITS FALSE NEIGHBOUR: 'it returns false'. Refute it at one input. -/
def crawlStopsWrong : ChangeSpec := { name := "crawlStops", fn := fun _ => fun
  | [d1, d2] => { results := [.lit (.bool false)], args := [d1, d2] }
  | _ => none }
def CrawlStopsWrongFalsely : Prop := crawlStopsRow.holds Try.pinned (OpenSpec.ofChange crawlStopsWrong)

/-- 'tallboylaw14.CrawlMeets': WHATEVER THE INPUT: true; the input reads as it did. -/
def crawlMeetsSpec : ChangeSpec := { name := "crawlMeets", fn := fun _ => fun
  | [d1, d2] => { results := [.lit (.bool true)], args := [d1, d2] }
  | _ => none }
def crawlMeetsRow : OpenClaim := { program := "ytfhffffdhlofgaa", sum := "301fe8fe01755f8399bad3f814a157efc661a146f93e2b1bf812ce3d28528782", func := "tallboy/tallboylaw14.CrawlMeets", spec := "crawlMeets", unfollowed := true, recurses := true, apart := false }
def CrawlMeetsSaid : Prop := crawlMeetsRow.holds Try.pinned (OpenSpec.ofChange crawlMeetsSpec)

/-- ITS FALSE NEIGHBOUR: 'it returns false'. Refute it at one input. -/
def crawlMeetsWrong : ChangeSpec := { name := "crawlMeets", fn := fun _ => fun
  | [d1, d2] => { results := [.lit (.bool false)], args := [d1, d2] }
  | _ => none }
def CrawlMeetsWrongFalsely : Prop := crawlMeetsRow.holds Try.pinned (OpenSpec.ofChange crawlMeetsWrong)

/-- 'tallboylaw14.CrawlMore': WHATEVER THE INPUT: true; the input reads as it did. -/
def crawlMoreSpec : ChangeSpec := { name := "crawlMore", fn := fun _ => fun
  | [d1, d2, d3] => { results := [.lit (.bool true)], args := [d1, d2, d3] }
  | _ => none }
def crawlMoreRow : OpenClaim := { program := "ytfhffffdhlofgaa", sum := "301fe8fe01755f8399bad3f814a157efc661a146f93e2b1bf812ce3d28528782", func := "tallboy/tallboylaw14.CrawlMore", spec := "crawlMore", unfollowed := true, recurses := true, apart := false }
def CrawlMoreSaid : Prop := crawlMoreRow.holds Try.pinned (OpenSpec.ofChange crawlMoreSpec)

/-- ITS FALSE NEIGHBOUR: 'it returns false'. Refute it at one input. -/
def crawlMoreWrong : ChangeSpec := { name := "crawlMore", fn := fun _ => fun
  | [d1, d2, d3] => { results := [.lit (.bool false)], args := [d1, d2, d3] }
  | _ => none }
def CrawlMoreWrongFalsely : Prop := crawlMoreRow.holds Try.pinned (OpenSpec.ofChange crawlMoreWrong)

/-- 'tallboylaw14.CrawlDoes': WHATEVER THE INPUT: true; the input reads as it did. -/
def crawlDoesSpec : ChangeSpec := { name := "crawlDoes", fn := fun _ => fun
  | [d] => { results := [.lit (.bool true)], args := [d] }
  | _ => none }
def crawlDoesRow : OpenClaim := { program := "ytfhffffdhlofgaa", sum := "301fe8fe01755f8399bad3f814a157efc661a146f93e2b1bf812ce3d28528782", func := "tallboy/tallboylaw14.CrawlDoes", spec := "crawlDoes", unfollowed := true, recurses := true, apart := false }
def CrawlDoesSaid : Prop := crawlDoesRow.holds Try.pinned (OpenSpec.ofChange crawlDoesSpec)

/-- ITS FALSE NEIGHBOUR: 'it returns false'. Refute it at one input. -/
def crawlDoesWrong : ChangeSpec := { name := "crawlDoes", fn := fun _ => fun
  | [d] => { results := [.lit (.bool false)], args := [d] }
  | _ => none }
def CrawlDoesWrongFalsely : Prop := crawlDoesRow.holds Try.pinned (OpenSpec.ofChange crawlDoesWrong)

/- THE SECOND FORM. 'bulk': how many values and letters a reading holds, each counted each time it is reached (what is shared counts as often as it is met; a slice's spare places count too). A statement '..UptoSaid' is the law's where the arguments, and the package variables that the reading takes, are together of bulk at most 1048576: NARROWER than '..Said'. Prove '..Said' where nothing that the law and all that it calls make is longer than what came in: it says more and counts as full. Else prove '..UptoSaid'. A law counts once. -/
mutual
def uptoBulk {H : Type} : DataW H → Nat
  | .lit (.string bytes) => bytes.length + 1
  | .lit _ => 1
  | .nil => 1
  | .ptr d => uptoBulk d + 1
  | .slice elems spare => uptoBulkAll elems + uptoBulkAll spare + 1
  | .agg parts => uptoBulkAll parts + 1
  | .iface _ d => uptoBulk d + 1
  | .map entries => uptoBulkEntries entries + 1
  | .held _ => 1
def uptoBulkAll {H : Type} : List (DataW H) → Nat
  | [] => 0
  | d :: r => uptoBulk d + uptoBulkAll r
def uptoBulkEntries {H : Type} : List (Lit × DataW H) → Nat
  | [] => 0
  | x :: r => uptoBulkEntry x + uptoBulkEntries r
def uptoBulkEntry {H : Type} : Lit × DataW H → Nat
  | (.string bytes, d) => bytes.length + uptoBulk d + 1
  | (_, d) => uptoBulk d + 1
 end
def uptoSmall : (H : Type) → List (DataW H) → Bool := fun _ ds => decide (uptoBulkAll ds ≤ 1048576)
def OpenSpec.upto (s : _root_.Go.ChangeSpec) : _root_.Go.OpenSpec := { _root_.Go.OpenSpec.ofChange s with cond := some uptoSmall }

/-- 'tallboylaw09.LinksOrder', WHERE WHAT IT READS IS OF BULK AT MOST 1048576: true; the input reads as it did. -/
def linksOrderUptoRow : OpenClaim := { program := "ytfhffffdhlofgaa", sum := "301fe8fe01755f8399bad3f814a157efc661a146f93e2b1bf812ce3d28528782", func := "tallboy/tallboylaw09.LinksOrder", spec := "linksOrder", unfollowed := true, recurses := true, apart := false, narrowed := true }
def LinksOrderUptoSaid : Prop := linksOrderUptoRow.holds Try.pinned (OpenSpec.upto linksOrderSpec)

/-- 'tallboylaw09.LinksInserts', WHERE WHAT IT READS IS OF BULK AT MOST 1048576: true; the input reads as it did. -/
def linksInsertsUptoRow : OpenClaim := { program := "ytfhffffdhlofgaa", sum := "301fe8fe01755f8399bad3f814a157efc661a146f93e2b1bf812ce3d28528782", func := "tallboy/tallboylaw09.LinksInserts", spec := "linksInserts", unfollowed := true, recurses := true, apart := false, narrowed := true }
def LinksInsertsUptoSaid : Prop := linksInsertsUptoRow.holds Try.pinned (OpenSpec.upto linksInsertsSpec)

/-- 'tallboylaw09.LinksThreads', WHERE WHAT IT READS IS OF BULK AT MOST 1048576: true; the input reads as it did. -/
def linksThreadsUptoRow : OpenClaim := { program := "ytfhffffdhlofgaa", sum := "301fe8fe01755f8399bad3f814a157efc661a146f93e2b1bf812ce3d28528782", func := "tallboy/tallboylaw09.LinksThreads", spec := "linksThreads", unfollowed := true, recurses := true, apart := false, narrowed := true }
def LinksThreadsUptoSaid : Prop := linksThreadsUptoRow.holds Try.pinned (OpenSpec.upto linksThreadsSpec)

/-- 'tallboylaw09.LinksWalk', WHERE WHAT IT READS IS OF BULK AT MOST 1048576: true; the input reads as it did. -/
def linksWalkUptoRow : OpenClaim := { program := "ytfhffffdhlofgaa", sum := "301fe8fe01755f8399bad3f814a157efc661a146f93e2b1bf812ce3d28528782", func := "tallboy/tallboylaw09.LinksWalk", spec := "linksWalk", unfollowed := true, recurses := true, apart := false, narrowed := true }
def LinksWalkUptoSaid : Prop := linksWalkUptoRow.holds Try.pinned (OpenSpec.upto linksWalkSpec)

/-- 'tallboylaw09.LinksDoes', WHERE WHAT IT READS IS OF BULK AT MOST 1048576: true; the input reads as it did. -/
def linksDoesUptoRow : OpenClaim := { program := "ytfhffffdhlofgaa", sum := "301fe8fe01755f8399bad3f814a157efc661a146f93e2b1bf812ce3d28528782", func := "tallboy/tallboylaw09.LinksDoes", spec := "linksDoes", unfollowed := true, recurses := true, apart := false, narrowed := true }
def LinksDoesUptoSaid : Prop := linksDoesUptoRow.holds Try.pinned (OpenSpec.upto linksDoesSpec)

/-- 'tallboylaw14.CrawlStops', WHERE WHAT IT READS IS OF BULK AT MOST 1048576: true; the input reads as it did. -/
def crawlStopsUptoRow : OpenClaim := { program := "ytfhffffdhlofgaa", sum := "301fe8fe01755f8399bad3f814a157efc661a146f93e2b1bf812ce3d28528782", func := "tallboy/tallboylaw14.CrawlStops", spec := "crawlStops", unfollowed := true, recurses := true, apart := false, narrowed := true }
def CrawlStopsUptoSaid : Prop := crawlStopsUptoRow.holds Try.pinned (OpenSpec.upto crawlStopsSpec)

/-- 'tallboylaw14.CrawlMeets', WHERE WHAT IT READS IS OF BULK AT MOST 1048576: true; the input reads as it did. -/
def crawlMeetsUptoRow : OpenClaim := { program := "ytfhffffdhlofgaa", sum := "301fe8fe01755f8399bad3f814a157efc661a146f93e2b1bf812ce3d28528782", func := "tallboy/tallboylaw14.CrawlMeets", spec := "crawlMeets", unfollowed := true, recurses := true, apart := false, narrowed := true }
def CrawlMeetsUptoSaid : Prop := crawlMeetsUptoRow.holds Try.pinned (OpenSpec.upto crawlMeetsSpec)

/-- 'tallboylaw14.CrawlMore', WHERE WHAT IT READS IS OF BULK AT MOST 1048576: true; the input reads as it did. -/
def crawlMoreUptoRow : OpenClaim := { program := "ytfhffffdhlofgaa", sum := "301fe8fe01755f8399bad3f814a157efc661a146f93e2b1bf812ce3d28528782", func := "tallboy/tallboylaw14.CrawlMore", spec := "crawlMore", unfollowed := true, recurses := true, apart := false, narrowed := true }
def CrawlMoreUptoSaid : Prop := crawlMoreUptoRow.holds Try.pinned (OpenSpec.upto crawlMoreSpec)

/-- 'tallboylaw14.CrawlDoes', WHERE WHAT IT READS IS OF BULK AT MOST 1048576: true; the input reads as it did. -/
def crawlDoesUptoRow : OpenClaim := { program := "ytfhffffdhlofgaa", sum := "301fe8fe01755f8399bad3f814a157efc661a146f93e2b1bf812ce3d28528782", func := "tallboy/tallboylaw14.CrawlDoes", spec := "crawlDoes", unfollowed := true, recurses := true, apart := false, narrowed := true }
def CrawlDoesUptoSaid : Prop := crawlDoesUptoRow.holds Try.pinned (OpenSpec.upto crawlDoesSpec)

end Rows
end Go.Proofs.Ytfhffffdhlofgaa
