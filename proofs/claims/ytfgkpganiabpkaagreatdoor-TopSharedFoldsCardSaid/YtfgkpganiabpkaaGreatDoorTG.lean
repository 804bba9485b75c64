import Derived.Test.YtfgkpganiabpkaaGreatDoorTF
/- Proved in this claim (its last text holds the theorem): the given statement TopSharedFoldsCardSaid, with no condition of ours. This text is one part of that proof: the row's own facts and the joining. -/
namespace Go.Proofs.YtfgkpganiabpkaaGreatDoor
open Go
set_option maxRecDepth 100000
theorem tie_n : varsNamedLaterB Tryz.prog (varsId Tryz.prog) laid10 = true := by kernel_rfl
end Go.Proofs.YtfgkpganiabpkaaGreatDoor
