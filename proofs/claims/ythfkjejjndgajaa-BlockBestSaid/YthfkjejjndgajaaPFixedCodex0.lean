-- PRINTED BY print.sh 35421559b90ae4d0a3588c463048766b98c2df88dd9212a6774a882060cdf62d: not written by this session
import Derived.Test.YthfkjejjndgajaaProg
import Derived.Below
import Derived.Deep.Draws
import Derived.Deep.AppendLies
import Derived.Maps.AppendAt
import Derived.OwnWalk
import Derived.Laws.BytesArg
import Derived.Laws.MakeOwn
import Derived.Laws.OwnMore
import Derived.Deep.OwnRows
import Derived.Tactics
import Derived.Lib.ConvBytes
import Derived.Laws.Slices
import Derived.WalkKit
import Derived.KernelRfl
import Derived.RowKit3
import Derived.Deep.LoopGhost
import Derived.Deep.QuietTactic
import Derived.BigQuiet
import Derived.WideLaws
import Derived.Deep.DeepCutAuto
import Derived.Deep.CutBlock
import Derived.Deep.RegionHeld3
import Derived.Laws.Rows
import Derived.Lib.AppendStr
import Derived.ArgAppend
import Derived.Laws.IdiomCopy
import Derived.OrdersHeld
import Derived.Laws.BitsLemmas
import Derived.RowKit
import Derived.Test.YthfkjejjndgajaaWWords
import Derived.Test.YthfkjejjndgajaaWLast
import Derived.Test.YthfkjejjndgajaaWTab
import Derived.Test.YthfkjejjndgajaaWFour
import Derived.Test.YthfkjejjndgajaaWQPut
import Derived.Test.YthfkjejjndgajaaWApart
import Derived.Test.YthfkjejjndgajaaWArr
import Derived.Test.YthfkjejjndgajaaWZeros
import Derived.Test.YthfkjejjndgajaaWFoot
import Derived.Test.YthfkjejjndgajaaWKept
import Derived.Test.YthfkjejjndgajaaWShare
import Derived.Test.YthfkjejjndgajaaWN
import Derived.Test.YthfkjejjndgajaaWFootNe
import Derived.Test.YthfkjejjndgajaaWAt
import Derived.Test.YthfkjejjndgajaaWEqStruct
import Derived.Test.YthfkjejjndgajaaWRepsOne
import Derived.Test.YthfkjejjndgajaaWInv
import Derived.Test.YthfkjejjndgajaaWInvWords
import Derived.Test.YthfkjejjndgajaaWGuard
import Derived.Test.YthfkjejjndgajaaWNEv
import Derived.Test.YthfkjejjndgajaaWMore
namespace Go.Proofs.Ythfkjejjndgajaa.PFixedCode
open Go.RowKit Go.Proofs.YthfkjejjndgajaaW.PrintWords Go.Proofs.YthfkjejjndgajaaW.PrintLast Go.Proofs.YthfkjejjndgajaaW.PrintMore
attribute [local go_sem] max2_int min2_int max_two min_two max_three min_three max_four min_four   -- for this text's walks alone
set_option linter.unusedVariables false
set_option linter.unusedSimpArgs false



def errW : Option Int → Value
  | none => .nilIface
  | some c => .iface 0 (.int .i64 c)
theorem errW_none : errW none = .nilIface := rfl
theorem errW_some (c : Int) : errW (some c) = .iface 0 (.int .i64 c) := rfl

theorem info3 : (Try.prog.info? 3).map (fun i => (i.zero, i.size, i.bytes)) = some (some (.int .i64 0), 1, 8) := by kernel_rfl
-- the values' own types

end Go.Proofs.Ythfkjejjndgajaa.PFixedCode
