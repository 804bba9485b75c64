import Derived.Test.YtfgkpganiabpkaaGreatDoorT7
import Derived.Test.YtfgkpganiabpkaaGreatDoorTB
import Derived.Test.YtfgkpganiabpkaaGreatDoorTC
/- Proved in this claim (its last text holds the theorem): the given statement TopSharedFoldsCardSaid, with no condition of ours. This text is one part of that proof: the row's own facts and the joining. -/
namespace Go.Proofs.YtfgkpganiabpkaaGreatDoor
open Go
set_option maxRecDepth 100000
theorem closed : joinedFacts Tryz.prog 3 Tryz.f3 Rows.topSharedFoldsSpec Rows.topSharedFoldsRow = true := by
  unfold joinedFacts
  exact (and_mk (and_mk (and_mk (and_mk (and_mk (and_mk (and_mk (and_mk (and_mk (and_mk (and_mk (and_mk (and_mk (and_mk (and_mk (and_mk (and_mk (and_mk (and_mk (and_mk (and_mk (and_mk (and_mk (and_mk (and_mk (and_mk (and_mk (and_mk (and_mk (and_mk (and_mk (by kernel_rfl) s_laidOut) s_maps) (by kernel_rfl)) (by kernel_rfl)) (by kernel_rfl)) (by kernel_rfl)) (by kernel_rfl)) (by kernel_rfl)) (by rw [ip_eq]; kernel_rfl)) (by rw [unf_eq]; kernel_rfl)) (by rw [rec_eq]; kernel_rfl)) (by rw [vn_eq]; kernel_rfl)) (by kernel_rfl)) (by kernel_rfl)) (by kernel_rfl)) (by kernel_rfl)) (by kernel_rfl)) (by kernel_rfl)) (by kernel_rfl)) (by kernel_rfl)) (by kernel_rfl)) j23) (by kernel_rfl)) j25) j26) j27) j28) (by kernel_rfl)) (by kernel_rfl)) (by kernel_rfl)) j32)
end Go.Proofs.YtfgkpganiabpkaaGreatDoor
