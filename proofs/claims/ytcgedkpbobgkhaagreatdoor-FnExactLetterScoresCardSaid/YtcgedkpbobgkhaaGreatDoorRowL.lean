/- The library's three tables, as the rows list them. No condition. -/
import Derived.Test.YtcgedkpbobgkhaaGreatDoorCh03a
import Derived.Test.YtcgedkpbobgkhaaGreatDoorRow
import Derived.Test.YtcgedkpbobgkhaaGreatDoorTie
import Derived.Test.YtcgedkpbobgkhaaGreatDoorCards
import Derived.PinnedBridge
import Derived.Lay
import Derived.LaidMore
import Derived.SevenTiedAt
import Derived.Lib.LaidU8
namespace Go.Proofs.YtcgedkpbobgkhaaGreatDoor
open Go Go.ChangeShapes Go.WideShapes Go.ChangeAt Go.RowKit Go.Lib
set_option linter.unusedVariables false
set_option maxRecDepth 100000
theorem caseX : CaseExtra Tryz.prog Tryz.laysH159_ren := ⟨by kernel_rfl, by kernel_rfl, by kernel_rfl, by kernel_rfl, by kernel_rfl, by kernel_rfl⟩
theorem u8X : U8Extra Tryz.prog Tryz.laysH159_ren := ⟨by kernel_rfl, by kernel_rfl, by kernel_rfl, by kernel_rfl, by kernel_rfl, by kernel_rfl, by kernel_rfl⟩
theorem accept_eq : (Rows.laid_unicode_utf8_acceptRanges : DataW Unit) = acceptData := by kernel_rfl
theorem tabs_of_laid {W : World} (h : laidMet Tryz.prog [("unicode/utf8.acceptRanges", Rows.laid_unicode_utf8_acceptRanges), ("unicode.CaseRanges", Rows.laid_unicode_CaseRanges), ("unicode/utf8.first", Rows.laid_unicode_utf8_first)] W) : Tabs W := by
  refine ⟨caseVar_of_reads { Tryz.laysH159 with } Tryz.underlying133 caseX ?_, utf8Tabs_of_reads { Tryz.laysH159 with } u8X ?_ ?_⟩
  · rw [← Pinned.caseRanges_eq]
    exact Lib.laidMet.reads h (.tail _ (.head _))
  · rw [← Pinned.utf8First_eq]
    exact Lib.laidMet.reads h (.tail _ (.tail _ (.head _)))
  · rw [← accept_eq]
    exact Lib.laidMet.reads h (.head _)
end Go.Proofs.YtcgedkpbobgkhaaGreatDoor
