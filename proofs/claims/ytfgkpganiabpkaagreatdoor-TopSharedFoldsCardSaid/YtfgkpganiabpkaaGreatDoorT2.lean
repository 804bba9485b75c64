import Derived.Test.YtfgkpganiabpkaaGreatDoorRows
import Derived.Lay
import Derived.LaidHandle
import Derived.LaidLaws
import Derived.ProofKit
/- Proved in this claim (its last text holds the theorem): the given statement TopSharedFoldsCardSaid, with no condition of ours. This text is one part of that proof: the row's own facts and the joining. -/
namespace Go.Proofs.YtfgkpganiabpkaaGreatDoor
open Go
set_option maxRecDepth 100000
/-! ## A world in which the variables read as listed -/
noncomputable def w0 (os : Os) : World :=
  { World.holding Tryz.prog os ⟨#[], #[], []⟩ with heap := (World.holding Tryz.prog os ⟨#[], #[], []⟩).heap.setIfInBounds 2 (.cells #[.iface 510 (.agg #[.pointer (some ⟨12, 304, none⟩)])] 433 (0, 0)) }
noncomputable abbrev laid11 : List (String × DataW Unit) := Rows.topSharedFoldsRow.laid
noncomputable def plainL : List (String × DataW Unit) := laid11.filter fun x => x.2.handleName?.isNone
noncomputable def W0 (os : Os) : World := (w0 os).layVars Tryz.prog plainL
noncomputable def arg0 : Array Value := #[.agg #[.int .i64 0, .int .i64 0, .int .i64 0, .int .i64 0, .slice none 0 0]]
noncomputable abbrev WC (os : Os) : World := (W0 os).forCall (fun _ _ => 0) ⟨#[], arg0, []⟩
theorem W0_os (os : Os) : (W0 os).os = os := World.layVars_os _ _ _
end Go.Proofs.YtfgkpganiabpkaaGreatDoor
