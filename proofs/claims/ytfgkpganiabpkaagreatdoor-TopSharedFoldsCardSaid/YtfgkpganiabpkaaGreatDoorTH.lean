import Derived.Test.YtfgkpganiabpkaaGreatDoorTF
/- Proved in this claim (its last text holds the theorem): the given statement TopSharedFoldsCardSaid, with no condition of ours. This text is one part of that proof: the row's own facts and the joining. -/
namespace Go.Proofs.YtfgkpganiabpkaaGreatDoor
open Go
set_option maxRecDepth 100000
theorem tie_run : ∀ os tape, doorLeaves Tryz.prog 94 8 65 laid10 os tape = some (laid10.filter fun x => x.2.handleName?.isNone, (funcsListed laid10).map (·.2.funcsOut)) := fun _ _ => by kernel_rfl
end Go.Proofs.YtfgkpganiabpkaaGreatDoor
