import Derived.Test.YtfgkpganiabpkaaGreatDoorTE
import Derived.Test.YtfgkpganiabpkaaGreatDoorTK
/- Proved in this claim (its last text holds the theorem): the given statement TopSharedFoldsCardSaid, with no condition of ours. This text is one part of that proof: the row's own facts and the joining. -/
set_option linter.all false
namespace Go.Proofs.YtfgkpganiabpkaaGreatDoor
open Go
/-- TopSharedFolds: the given statement, with its card. -/
theorem topSharedFolds_card : Rows.TopSharedFoldsCardSaid := card_of topSharedFolds_holds
end Go.Proofs.YtfgkpganiabpkaaGreatDoor
