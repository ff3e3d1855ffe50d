/- The library's three tables, out of a list of laid variables. No condition. -/
import Derived.Test.YtdecakimhjieeaaDoorCh03a
import Derived.Test.YtdecakimhjieeaaDoorRowB
namespace Go.Proofs.YtdecakimhjieeaaDoor
open Go Go.ChangeShapes Go.WideShapes Go.ChangeAt Go.RowKit Go.Lib
set_option linter.unusedVariables false
set_option maxRecDepth 100000
theorem caseX : CaseExtra Tryd.prog Tryd.laysH159_ren := ⟨by kernel_rfl, by kernel_rfl, by kernel_rfl, by kernel_rfl, by kernel_rfl, by kernel_rfl⟩
theorem u8X : U8Extra Tryd.prog Tryd.laysH159_ren := ⟨by kernel_rfl, by kernel_rfl, by kernel_rfl, by kernel_rfl, by kernel_rfl, by kernel_rfl, by kernel_rfl⟩
theorem accept_eq : (Rows.laid_unicode_utf8_acceptRanges : DataW Unit) = acceptData := by kernel_rfl
theorem tabs_of {W : World} {L : List (String × DataW Unit)} (h : laidMet Tryd.prog L W) (h1 : ("unicode/utf8.acceptRanges", Rows.laid_unicode_utf8_acceptRanges) ∈ L) (h2 : ("unicode.CaseRanges", Rows.laid_unicode_CaseRanges) ∈ L) (h3 : ("unicode/utf8.first", Rows.laid_unicode_utf8_first) ∈ L) : Tabs W := by
  refine ⟨caseVar_of_reads { Tryd.laysH159 with } Tryd.underlying147 caseX ?_, utf8Tabs_of_reads { Tryd.laysH159 with } u8X ?_ ?_⟩
  · rw [← Pinned.caseRanges_eq]
    exact Lib.laidMet.reads h h2
  · rw [← Pinned.utf8First_eq]
    exact Lib.laidMet.reads h h3
  · rw [← accept_eq]
    exact Lib.laidMet.reads h h1
end Go.Proofs.YtdecakimhjieeaaDoor
