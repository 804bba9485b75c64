import Derived.Test.YtfgkpganiabpkaaGreatDoorT2
/- Proved in this claim (its last text holds the theorem): the given statement TopSharedFoldsCardSaid, with no condition of ours. This text is one part of that proof: the row's own facts and the joining. -/
namespace Go.Proofs.YtfgkpganiabpkaaGreatDoor
open Go
set_option maxRecDepth 100000
theorem w_fits (os : Os) : (w0 os).layFits Tryz.prog plainL [] = true := by kernel_rfl
theorem w_ifaces (os : Os) : (w0 os).layIfaces Tryz.prog plainL (W0 os) = true := by kernel_rfl
theorem w_handles (os : Os) : (laid11.filter fun x => x.2.handleName?.isSome && x.2.funcsIn?.isNone).all (handleAtB Tryz.prog (WC os).memory) = true := by kernel_rfl
theorem w_funcs (os : Os) : funcsRun Tryz.prog (WC os).memory 8 ((funcsListed laid11).map (·.1)) = some ((funcsListed laid11).map (·.2.funcsOut)) := by kernel_rfl
theorem w_laid (os : Os) : laidMetH Tryz.prog laid11 (WC os).memory := by
  have e1 : (plainL.filter fun x => (plainL.map (·.1)).contains x.1) = plainL := List.filter_eq_self.2 fun x hx => List.contains_iff_mem.2 (List.mem_map.2 ⟨x, hx, rfl⟩)
  have e2 : (plainL.filter fun x => !(plainL.map (·.1)).contains x.1) = [] := List.filter_eq_nil_iff.2 fun x hx => by rw [List.contains_iff_mem.2 (List.mem_map.2 ⟨x, hx, rfl⟩)]; simp
  have h : laidMet Tryz.prog plainL (W0 os) := laidMet_layVars (w0 := w0 os) (plainL.map (·.1)) [] (by rw [e1]; rfl) (by rw [e1]; exact w_fits os) (by rw [e1]; exact w_ifaces os) (by rw [e2]; exact LaidIn.none)
  exact laidMetH_of_parts3 (fuel := 8) (h.of_heap (by simp [World.memory, World.forCall, Input.heap])) (w_handles os) (w_funcs os)
end Go.Proofs.YtfgkpganiabpkaaGreatDoor
