-- printed by myprint.py, a session's own driver around the kit's printing program
import Derived.Test.YtjegaejdphmdgaaDoorProg
import Derived.Below
import Derived.Deep.Draws
import Derived.Deep.AppendLies
import Derived.Maps.AppendAt
import Derived.OwnWalk
import Derived.Laws.BytesArg
import Derived.Laws.MakeOwn
import Derived.Laws.OwnMore
import Derived.Deep.OwnRows
import Derived.Tactics
import Derived.Lib.ConvBytes
import Derived.Laws.Slices
import Derived.WalkKit
import Derived.KernelRfl
import Derived.RowKit3
import Derived.Deep.LoopGhost
import Derived.Deep.QuietTactic
import Derived.BigQuiet
import Derived.WideLaws
import Derived.Deep.DeepCutAuto
import Derived.Deep.CutBlock
import Derived.Deep.RegionHeld3
import Derived.Laws.Rows
import Derived.Lib.AppendStr
import Derived.ArgAppend
import Derived.Laws.IdiomCopy
import Derived.OrdersHeld
import Derived.Laws.BitsLemmas
import Derived.RowKit
import Derived.Test.YtjegaejdphmdgaaDoorGiven
import Derived.Test.YtjegaejdphmdgaaDoorWWords
import Derived.Test.YtjegaejdphmdgaaDoorWLast
import Derived.Test.YtjegaejdphmdgaaDoorWTab
import Derived.Test.YtjegaejdphmdgaaDoorWFour
import Derived.Test.YtjegaejdphmdgaaDoorWQPut
import Derived.Test.YtjegaejdphmdgaaDoorWApart
import Derived.Test.YtjegaejdphmdgaaDoorWArr
import Derived.Test.YtjegaejdphmdgaaDoorWZeros
import Derived.Test.YtjegaejdphmdgaaDoorWFoot
import Derived.Test.YtjegaejdphmdgaaDoorWKept
import Derived.Test.YtjegaejdphmdgaaDoorWShare
import Derived.Test.YtjegaejdphmdgaaDoorWN
import Derived.Test.YtjegaejdphmdgaaDoorWFootNe
import Derived.Test.YtjegaejdphmdgaaDoorWAt
import Derived.Test.YtjegaejdphmdgaaDoorWEqStruct
import Derived.Test.YtjegaejdphmdgaaDoorWRepsOne
import Derived.Test.YtjegaejdphmdgaaDoorWInv
import Derived.Test.YtjegaejdphmdgaaDoorWInvWords
import Derived.Test.YtjegaejdphmdgaaDoorWGuard
import Derived.Test.YtjegaejdphmdgaaDoorWNEv
import Derived.Test.YtjegaejdphmdgaaDoorWMore
namespace Go.Proofs.YtjegaejdphmdgaaDoor.Print
open Go.RowKit Go.Proofs.YtjegaejdphmdgaaDoorW.PrintWords Go.Proofs.YtjegaejdphmdgaaDoorW.PrintLast Go.Proofs.YtjegaejdphmdgaaDoorW.PrintMore
attribute [local go_sem] max2_int min2_int max_two min_two max_three min_three max_four min_four   -- for this text's walks alone
set_option linter.unusedVariables false
set_option linter.unusedSimpArgs false



def errW : Option Int → Value
  | none => .nilIface
  | some c => .iface 0 (.int .i64 c)
theorem errW_none : errW none = .nilIface := rfl
theorem errW_some (c : Int) : errW (some c) = .iface 0 (.int .i64 c) := rfl

-- the values' own types

end Go.Proofs.YtjegaejdphmdgaaDoor.Print
