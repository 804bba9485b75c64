import Derived.Test.YtfgkpganiabpkaaGreatDoorT2
/- Proved in this claim (its last text holds the theorem): the given statement TopSharedFoldsCardSaid, with no condition of ours. This text is one part of that proof: the row's own facts and the joining. -/
namespace Go.Proofs.YtfgkpganiabpkaaGreatDoor
open Go
set_option maxRecDepth 100000
theorem w_zip (os : Os) : (WC os).variablesZipB Tryz.prog = true := by kernel_rfl
theorem w_rest (os : Os) : ((WC os).heap.toList.drop Tryz.prog.globals.size).take ((begin Tryz.prog (fun _ _ => 0) default).world.heap.size - Tryz.prog.globals.size) =
      (begin Tryz.prog (fun _ _ => 0) default).world.heap.toList.drop Tryz.prog.globals.size := by kernel_rfl
theorem w_shaped (os : Os) : (WC os).Shaped Tryz.prog := World.shaped_of_ZipB (w_zip os) (w_rest os)
end Go.Proofs.YtfgkpganiabpkaaGreatDoor
