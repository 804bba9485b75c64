import Derived.Test.YtfgkpganiabpkaaGreatDoorTG
import Derived.Test.YtfgkpganiabpkaaGreatDoorTH
import Derived.Test.YtfgkpganiabpkaaGreatDoorTI
/- Proved in this claim (its last text holds the theorem): the given statement TopSharedFoldsCardSaid, with no condition of ours. This text is one part of that proof: the row's own facts and the joining. -/
namespace Go.Proofs.YtfgkpganiabpkaaGreatDoor
open Go
set_option maxRecDepth 100000
theorem seatTie1 : Tryz.prog.laidByTextLater laid10 [.data, .data, .data, .data, .handle, .sentinel, .sentinel, .data, .widerDeep, .widerDeep] true :=
  Program.laidByTextLater_by_one 94 8 65 tie_hw tie_hw' tie_root tie_k tie_g tie_n tie_run
theorem tie : Tryz.prog.laidByTextLater [("math/bits.deBruijn32tab", Rows.laid_math_bits_deBruijn32tab), ("math/bits.deBruijn64tab", Rows.laid_math_bits_deBruijn64tab), ("internal/strconv.uint64pow10", Rows.laid_internal_strconv_uint64pow10), ("unicode/utf8.acceptRanges", Rows.laid_unicode_utf8_acceptRanges), ("errors.errorType", Rows.laid_errors_errorType), ("strconv.ErrRange", Rows.laid_strconv_ErrRange), ("strconv.ErrSyntax", Rows.laid_strconv_ErrSyntax), ("invigilator/lexer.none", Rows.laid_invigilator_lexer_none), ("invigilator/prims.numbers", Rows.laid_invigilator_prims_numbers), ("invigilator/prims.alike", Rows.laid_invigilator_prims_alike)] [.data, .data, .data, .data, .handle, .sentinel, .sentinel, .data, .widerDeep, .widerDeep] true :=
  Program.laidByTextLater.sub seatTie1 ["math/bits.deBruijn32tab", "math/bits.deBruijn64tab", "internal/strconv.uint64pow10", "unicode/utf8.acceptRanges", "errors.errorType", "strconv.ErrRange", "strconv.ErrSyntax", "invigilator/lexer.none", "invigilator/prims.numbers", "invigilator/prims.alike"] (by kernel_rfl) (by kernel_rfl)
theorem topSharedFolds_row_tie : Rows.topSharedFoldsRow.laidByTextAt .later Tryz.pinned [.data, .data, .data, .data, .handle, .sentinel, .sentinel, .data, .widerDeep, .widerDeep, .pinned] true :=
  OpenClaim.laidByTextAt_pinned rfl rfl tie rfl rfl rfl rfl (fun y hy _e => by
    simp only [Rows.topSharedFoldsRow, List.zip_cons_cons, List.zip_nil_right, List.mem_cons, List.mem_nil_iff, or_false] at hy
    rcases hy with rfl | rfl | rfl | rfl | rfl | rfl | rfl | rfl | rfl | rfl | rfl
    · cases _e
    · cases _e
    · cases _e
    · cases _e
    · cases _e
    · cases _e
    · cases _e
    · cases _e
    · cases _e
    · cases _e
    · exact ⟨pin_laid_unicode_utf8_first, by kernel_rfl⟩) fits1
end Go.Proofs.YtfgkpganiabpkaaGreatDoor
