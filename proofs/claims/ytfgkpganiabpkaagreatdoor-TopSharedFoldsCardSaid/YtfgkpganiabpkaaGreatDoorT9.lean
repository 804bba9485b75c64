import Derived.Test.YtfgkpganiabpkaaGreatDoorRows
import GoSem.ClaimGoes
import Derived.KernelRfl
/- Proved in this claim (its last text holds the theorem): the given statement TopSharedFoldsCardSaid, with no condition of ours. This text is one part of that proof: the row's own facts and the joining. -/
namespace Go.Proofs.YtfgkpganiabpkaaGreatDoor
open Go
set_option maxRecDepth 100000
theorem nogo : Tryz.prog.funcs.toList.any Func.goes = false := by kernel_rfl
end Go.Proofs.YtfgkpganiabpkaaGreatDoor
