-- PRINTED BY print.sh 35421559b90ae4d0a3588c463048766b98c2df88dd9212a6774a882060cdf62d: not written by this session
import Derived.Test.YticmnckkhbniaaaDoorProg
import Derived.Below
import Derived.Deep.Draws
import Derived.Deep.AppendLies
import Derived.Maps.AppendAt
import Derived.OwnWalk
import Derived.Laws.BytesArg
import Derived.Laws.MakeOwn
import Derived.Laws.OwnMore
import Derived.Deep.OwnRows
import Derived.Tactics
import Derived.Lib.ConvBytes
import Derived.Laws.Slices
import Derived.WalkKit
import Derived.KernelRfl
import Derived.RowKit3
import Derived.Deep.LoopGhost
import Derived.Deep.QuietTactic
import Derived.BigQuiet
import Derived.WideLaws
import Derived.Deep.DeepCutAuto
import Derived.Deep.CutBlock
import Derived.Deep.RegionHeld3
import Derived.Laws.Rows
import Derived.Lib.AppendStr
import Derived.ArgAppend
import Derived.Laws.IdiomCopy
import Derived.OrdersHeld
import Derived.Laws.BitsLemmas
import Derived.RowKit
import Derived.Test.YticmnckkhbniaaaDoorWWords
import Derived.Test.YticmnckkhbniaaaDoorWLast
import Derived.Test.YticmnckkhbniaaaDoorWTab
import Derived.Test.YticmnckkhbniaaaDoorWFour
import Derived.Test.YticmnckkhbniaaaDoorWQPut
import Derived.Test.YticmnckkhbniaaaDoorWApart
import Derived.Test.YticmnckkhbniaaaDoorWArr
import Derived.Test.YticmnckkhbniaaaDoorWZeros
import Derived.Test.YticmnckkhbniaaaDoorWFoot
import Derived.Test.YticmnckkhbniaaaDoorWKept
import Derived.Test.YticmnckkhbniaaaDoorWShare
import Derived.Test.YticmnckkhbniaaaDoorWN
import Derived.Test.YticmnckkhbniaaaDoorWFootNe
import Derived.Test.YticmnckkhbniaaaDoorWAt
import Derived.Test.YticmnckkhbniaaaDoorWEqStruct
import Derived.Test.YticmnckkhbniaaaDoorWRepsOne
import Derived.Test.YticmnckkhbniaaaDoorWInv
import Derived.Test.YticmnckkhbniaaaDoorWInvWords
import Derived.Test.YticmnckkhbniaaaDoorWGuard
import Derived.Test.YticmnckkhbniaaaDoorWNEv
import Derived.Test.YticmnckkhbniaaaDoorWMore
namespace Go.Proofs.YticmnckkhbniaaaDoor.PHashSums
open Go.RowKit Go.Proofs.YticmnckkhbniaaaDoorW.PrintWords Go.Proofs.YticmnckkhbniaaaDoorW.PrintLast Go.Proofs.YticmnckkhbniaaaDoorW.PrintMore
attribute [local go_sem] max2_int min2_int max_two min_two max_three min_three max_four min_four   -- for this text's walks alone
set_option linter.unusedVariables false
set_option linter.unusedSimpArgs false



def errW : Option Int → Value
  | none => .nilIface
  | some c => .iface 0 (.int .i64 c)
theorem errW_none : errW none = .nilIface := rfl
theorem errW_some (c : Int) : errW (some c) = .iface 0 (.int .i64 c) := rfl

theorem info3 : (Tryd.prog.info? 3).map (fun i => (i.zero, i.size, i.bytes)) = some (some (.int .i64 0), 1, 8) := by kernel_rfl
-- the values' own types

end Go.Proofs.YticmnckkhbniaaaDoor.PHashSums
