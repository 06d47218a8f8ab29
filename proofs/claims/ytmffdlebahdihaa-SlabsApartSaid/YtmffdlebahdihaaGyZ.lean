import Derived.Test.YtmffdlebahdihaaGyX
import Derived.Test.YtmffdlebahdihaaGyY
import Derived.Deep.CutRange
import Derived.Deep.CutBlock
/- SlabsApart, joined. -/
namespace Go.Proofs.Ytmffdlebahdihaa.Slab
open Go Go.RowKit Go.Shelf Go.Proofs.Ytmffdlebahdihaa.Mem Go.Proofs.Ytmffdlebahdihaa.CodecPure Go.Proofs.Ytmffdlebahdihaa.ArenaPure Go.Proofs.Ytmffdlebahdihaa.Codec Go.Proofs.Ytmffdlebahdihaa.Arena Go.Proofs.Ytmffdlebahdihaa.Item
set_option linter.unusedVariables false
set_option maxRecDepth 100000
variable {U : List (Nat × Nat)}
theorem apart_walk (n0 : Int) (A : Option Addr) (c : Nat) (l : List (List Int)) (w : World) (wf0 : (Lit.int .i64 n0).wf = true) (hl : SRow w [.i64, .i64, .i64] A c l) :
    Calls Try.prog 3 #[(.int .i64 n0), .slice A l.length c] w fun e w' => e = .returned (.bool true) ∧ Below w.heap.size w w' :=
  apart_parts.2.2 ⟨apart_r1⟩ ⟨apart_r2⟩ n0 A c l w wf0 hl
end Go.Proofs.Ytmffdlebahdihaa.Slab

