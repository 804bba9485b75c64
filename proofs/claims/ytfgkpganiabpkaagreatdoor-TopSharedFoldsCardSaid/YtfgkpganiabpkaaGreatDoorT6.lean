import Derived.Test.YtfgkpganiabpkaaGreatDoorRows
import Derived.ClosedOfChecked
import Derived.JoinedOf
/- Proved in this claim (its last text holds the theorem): the given statement TopSharedFoldsCardSaid, with no condition of ours. This text is one part of that proof: the row's own facts and the joining. -/
namespace Go.Proofs.YtfgkpganiabpkaaGreatDoor
open Go
set_option maxRecDepth 100000
theorem s_ty : Tryz.checked.prog.types = Tryz.checked.src.types := by kernel_rfl
theorem s_rest : (Tryz.prog.globals.all (fun g => decide (g.type < Tryz.prog.types.size)) && Tryz.prog.funcs.all (fun f => f.params.all fun t => decide (t < Tryz.prog.types.size))) = true := by kernel_rfl
theorem s_laidOut : laidOutB Tryz.prog = true := Go.ClosedOfChecked.laidOutB_of (Go.ClosedOfChecked.allSpec_of Tryz.checked.wellFormed s_ty) s_rest
theorem s_maps : mapsRowed Tryz.prog = true := Go.ClosedOfChecked.mapsRowed_of (Go.ClosedOfChecked.allSpec_of Tryz.checked.wellFormed s_ty)
end Go.Proofs.YtfgkpganiabpkaaGreatDoor
