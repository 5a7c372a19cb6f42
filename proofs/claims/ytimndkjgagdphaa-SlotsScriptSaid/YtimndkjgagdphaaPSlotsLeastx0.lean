-- PRINTED BY print.sh 35421559b90ae4d0a3588c463048766b98c2df88dd9212a6774a882060cdf62d: not written by this session
import Derived.Test.YtimndkjgagdphaaProg
import Derived.Below
import Derived.Deep.Draws
import Derived.Deep.AppendLies
import Derived.Maps.AppendAt
import Derived.OwnWalk
import Derived.Laws.BytesArg
import Derived.Laws.MakeOwn
import Derived.Laws.OwnMore
import Derived.Deep.OwnRows
import Derived.Tactics
import Derived.Lib.ConvBytes
import Derived.Laws.Slices
import Derived.WalkKit
import Derived.KernelRfl
import Derived.RowKit3
import Derived.Deep.LoopGhost
import Derived.Deep.QuietTactic
import Derived.BigQuiet
import Derived.WideLaws
import Derived.Deep.DeepCutAuto
import Derived.Deep.CutBlock
import Derived.Deep.RegionHeld3
import Derived.Laws.Rows
import Derived.Lib.AppendStr
import Derived.ArgAppend
import Derived.Laws.IdiomCopy
import Derived.OrdersHeld
import Derived.Laws.BitsLemmas
import Derived.RowKit
import Derived.Test.YtimndkjgagdphaaWWords
import Derived.Test.YtimndkjgagdphaaWLast
import Derived.Test.YtimndkjgagdphaaWTab
import Derived.Test.YtimndkjgagdphaaWFour
import Derived.Test.YtimndkjgagdphaaWQPut
import Derived.Test.YtimndkjgagdphaaWApart
import Derived.Test.YtimndkjgagdphaaWArr
import Derived.Test.YtimndkjgagdphaaWZeros
import Derived.Test.YtimndkjgagdphaaWFoot
import Derived.Test.YtimndkjgagdphaaWKept
import Derived.Test.YtimndkjgagdphaaWShare
import Derived.Test.YtimndkjgagdphaaWN
import Derived.Test.YtimndkjgagdphaaWFootNe
import Derived.Test.YtimndkjgagdphaaWAt
import Derived.Test.YtimndkjgagdphaaWEqStruct
import Derived.Test.YtimndkjgagdphaaWRepsOne
import Derived.Test.YtimndkjgagdphaaWInv
import Derived.Test.YtimndkjgagdphaaWInvWords
import Derived.Test.YtimndkjgagdphaaWGuard
import Derived.Test.YtimndkjgagdphaaWNEv
import Derived.Test.YtimndkjgagdphaaWMore
namespace Go.Proofs.Ytimndkjgagdphaa.PSlotsLeast
open Go.RowKit Go.Proofs.YtimndkjgagdphaaW.PrintWords Go.Proofs.YtimndkjgagdphaaW.PrintLast Go.Proofs.YtimndkjgagdphaaW.PrintMore
attribute [local go_sem] max2_int min2_int max_two min_two max_three min_three max_four min_four   -- for this text's walks alone
set_option linter.unusedVariables false
set_option linter.unusedSimpArgs false



def errW : Option Int → Value
  | none => .nilIface
  | some c => .iface 0 (.int .i64 c)
theorem errW_none : errW none = .nilIface := rfl
theorem errW_some (c : Int) : errW (some c) = .iface 0 (.int .i64 c) := rfl

-- the values' own types

end Go.Proofs.Ytimndkjgagdphaa.PSlotsLeast
