import Derived.Test.YtfgkpganiabpkaaGreatDoorTA
import Derived.Stop.Joined
/- Proved in this claim (its last text holds the theorem): the given statement TopSharedFoldsCardSaid, with no condition of ours. This text is one part of that proof: the row's own facts and the joining. -/
namespace Go.Proofs.YtfgkpganiabpkaaGreatDoor
open Go
set_option maxRecDepth 100000
theorem ip_eq : Tryz.prog.inPlace 3 = ["internal/bytealg.CountString", "internal/bytealg.IndexByteString", "internal/bytealg.IndexString", "internal/abi.NoEscape", "internal/reflectlite.ValueOf", "(internal/reflectlite.Value).Type", "(internal/reflectlite.Value).IsNil", "internal/reflectlite.TypeOf", "(internal/reflectlite.Value).Elem", "(internal/reflectlite.Value).Set"] := by
  unfold Program.inPlace
  rw [cl_eq]
  kernel_rfl
theorem unf_eq : Tryz.prog.unfollowed 3 = true := by
  unfold Program.unfollowed
  rw [cl_eq]
  kernel_rfl
theorem rec_eq : Tryz.prog.recurses 3 = true := by
  unfold Program.recurses
  rw [unf_eq]
  rfl
end Go.Proofs.YtfgkpganiabpkaaGreatDoor
