import Derived.Test.YtfgkpganiabpkaaGreatDoorCards
import Derived.Test.YtfgkpganiabpkaaGreatDoorTJ
import Derived.Test.YtfgkpganiabpkaaGreatDoorTA
import Derived.SevenTiedAt
/- Proved in this claim (its last text holds the theorem): the given statement TopSharedFoldsCardSaid, with no condition of ours. This text is one part of that proof: the row's own facts and the joining. -/
namespace Go.Proofs.YtfgkpganiabpkaaGreatDoor
open Go
set_option maxRecDepth 100000
theorem cw : Rows.topSharedFoldsRow.wfByText (OpenSpec.ofChange Rows.topSharedFoldsSpec) = true := by kernel_rfl
theorem mi : Tryz.prog.mainIs = some (true, "d52150998de99b18ba541214dcb678b3917a69898b845e2ef17e789a0c0ae029".toList) := by kernel_rfl
theorem lks : true = Tryz.prog.looks [] := by kernel_rfl
theorem ws27 : Tryz.prog.wantsStandIn 27 = false := by kernel_rfl
theorem fnamed' : Tryz.prog.funcNamed "invigilator/invigilatortop.TopSharedFolds" = some 3 := by kernel_rfl
/-- the card, out of the row -/
theorem card_of (h : Rows.TopSharedFoldsSaid) : Rows.TopSharedFoldsCardSaid :=
  Claim7.holds_tied_plain_at .later [] [.data, .data, .data, .data, .handle, .sentinel, .sentinel, .data, .widerDeep, .widerDeep, .pinned] true (true, "d52150998de99b18ba541214dcb678b3917a69898b845e2ef17e789a0c0ae029") true
    h (fun _ h => by cases h) cw (fun _ h => by cases h) topSharedFolds_row_tie rfl ⟨rfl, rfl⟩ mi rfl
    (fun f fn hf hfn => by
      obtain rfl : f = 3 := Option.some.inj (fnamed'.symm.trans hf) |>.symm
      obtain rfl : fn = Tryz.f3 := (Option.some.inj (Tryz.func3.symm.trans hfn)).symm
      exact ⟨lks, fun j t ht => by
        rw [Tryz.params3] at ht
        have hm : t = 27 := by simpa using Array.mem_of_getElem? ht
        subst hm
        exact ws27⟩)
    goesBy_none
end Go.Proofs.YtfgkpganiabpkaaGreatDoor
