import Derived.Test.YtfgkpganiabpkaaGreatDoorT2
/- Proved in this claim (its last text holds the theorem): the given statement TopSharedFoldsCardSaid, with no condition of ours. This text is one part of that proof: the row's own facts and the joining. -/
namespace Go.Proofs.YtfgkpganiabpkaaGreatDoor
open Go
set_option maxRecDepth 100000
theorem w_ok (os : Os) : Input.okWideB Tryz.prog (WC os) 3 ⟨#[], arg0, []⟩ = true := by kernel_rfl
theorem w_pre (os : Os) (H : Type) (enc : TypeId × Value → H) : Rows.topSharedFoldsSpec.preB enc Tryz.prog Tryz.f3 [] false (WC os).memory arg0 8 = true := by kernel_rfl
theorem w_sized (os : Os) (H : Type) (enc : TypeId × Value → H) : Rows.topSharedFoldsSpec.sizedB enc Tryz.prog Tryz.f3 false (WC os).memory arg0 8 = true := by kernel_rfl
end Go.Proofs.YtfgkpganiabpkaaGreatDoor
