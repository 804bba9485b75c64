import Derived.Test.YtfgkpganiabpkaaGreatDoorTA
import Derived.Stop.Joined
/- Proved in this claim (its last text holds the theorem): the given statement TopSharedFoldsCardSaid, with no condition of ours. This text is one part of that proof: the row's own facts and the joining. -/
namespace Go.Proofs.YtfgkpganiabpkaaGreatDoor
open Go
set_option maxRecDepth 100000
theorem vn_eq : Tryz.prog.varsNamed 3 = ["unicode/utf8.first", "unicode/utf8.acceptRanges", "internal/bytealg.MaxLen", "invigilator/lexer.none", "internal/strconv.uint64pow10", "math/bits.deBruijn32tab", "math/bits.deBruijn64tab", "strconv.ErrSyntax", "strconv.ErrRange", "invigilator/prims.numbers", "invigilator/prims.alike", "errors.errorType"] := by
  unfold Program.varsNamed
  rw [cl_eq]
  kernel_rfl
end Go.Proofs.YtfgkpganiabpkaaGreatDoor
