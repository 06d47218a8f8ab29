-- PRINTED BY print.sh 35421559b90ae4d0a3588c463048766b98c2df88dd9212a6774a882060cdf62d: not written by this session
import Derived.Test.YtihoefnflbfebaaProg
import Derived.Below
import Derived.Deep.Draws
import Derived.Deep.AppendLies
import Derived.Maps.AppendAt
import Derived.OwnWalk
import Derived.Laws.BytesArg
import Derived.Laws.MakeOwn
import Derived.Laws.OwnMore
import Derived.Deep.OwnRows
import Derived.Tactics
import Derived.Lib.ConvBytes
import Derived.Laws.Slices
import Derived.WalkKit
import Derived.KernelRfl
import Derived.RowKit3
import Derived.Deep.LoopGhost
import Derived.Deep.QuietTactic
import Derived.BigQuiet
import Derived.WideLaws
import Derived.Deep.DeepCutAuto
import Derived.Deep.CutBlock
import Derived.Deep.RegionHeld3
import Derived.Laws.Rows
import Derived.Lib.AppendStr
import Derived.ArgAppend
import Derived.Laws.IdiomCopy
import Derived.OrdersHeld
import Derived.Laws.BitsLemmas
import Derived.RowKit
import Derived.Test.YtihoefnflbfebaaWWords
import Derived.Test.YtihoefnflbfebaaWLast
import Derived.Test.YtihoefnflbfebaaWTab
import Derived.Test.YtihoefnflbfebaaWFour
import Derived.Test.YtihoefnflbfebaaWQPut
import Derived.Test.YtihoefnflbfebaaWApart
import Derived.Test.YtihoefnflbfebaaWArr
import Derived.Test.YtihoefnflbfebaaWZeros
import Derived.Test.YtihoefnflbfebaaWFoot
import Derived.Test.YtihoefnflbfebaaWKept
import Derived.Test.YtihoefnflbfebaaWShare
import Derived.Test.YtihoefnflbfebaaWN
import Derived.Test.YtihoefnflbfebaaWFootNe
import Derived.Test.YtihoefnflbfebaaWAt
import Derived.Test.YtihoefnflbfebaaWEqStruct
import Derived.Test.YtihoefnflbfebaaWRepsOne
import Derived.Test.YtihoefnflbfebaaWInv
import Derived.Test.YtihoefnflbfebaaWInvWords
import Derived.Test.YtihoefnflbfebaaWGuard
import Derived.Test.YtihoefnflbfebaaWNEv
import Derived.Test.YtihoefnflbfebaaWMore
namespace Go.Proofs.Ytihoefnflbfebaa.PFnvBytes
open Go.RowKit Go.Proofs.YtihoefnflbfebaaW.PrintWords Go.Proofs.YtihoefnflbfebaaW.PrintLast Go.Proofs.YtihoefnflbfebaaW.PrintMore
attribute [local go_sem] max2_int min2_int max_two min_two max_three min_three max_four min_four   -- for this text's walks alone
set_option linter.unusedVariables false
set_option linter.unusedSimpArgs false



def errW : Option Int → Value
  | none => .nilIface
  | some c => .iface 0 (.int .i64 c)
theorem errW_none : errW none = .nilIface := rfl
theorem errW_some (c : Int) : errW (some c) = .iface 0 (.int .i64 c) := rfl

theorem info5 : (Try.prog.info? 5).map (fun i => (i.zero, i.size, i.bytes)) = some (some (.int .u8 0), 1, 1) := by kernel_rfl
-- the values' own types

end Go.Proofs.Ytihoefnflbfebaa.PFnvBytes
