/- strings.Builder: what it holds outlives the growth of the world. No condition. -/
import Derived.Test.YtflpiebiacainaaDoorBase
import Derived.Shelf.Strings.BuilderK
namespace Go.Proofs.YtflpiebiacainaaDoor
set_option linter.unusedVariables false
set_option linter.unusedSimpArgs false
open Go Go.RowKit
theorem bldr_below {T e : TypeId} {B b : Nat} {bs : List Value} {w w' : World} (h : Lib.IsBuilderF T e B b bs w) (hx : Ext w w') : Lib.IsBuilderF T e B b bs w' := by
  have k : ∀ p, Lib.BuilderAtF T e B b p bs w → Lib.BuilderAtF T e B b p bs w' := by
    intro p hp
    have hlt := hp.lt
    obtain ⟨h1, v, h2, h3, h4⟩ := hp
    refine ⟨h1, v, by rw [hx.below.block b hlt]; exact h2, ?_, h4⟩
    obtain ⟨g1, g2⟩ := h3
    refine ⟨g1, ?_⟩
    rcases g2 with g2 | ⟨g, cap, cur, fr, hv, hg, hh, r⟩
    · exact .inl g2
    · exact .inr ⟨g, cap, cur, fr, hv, hg, by rw [hx.below.block g (Array.getElem?_eq_some_iff.1 hh).1]; exact hh, r⟩
  rcases h with h | h
  · exact .inl (k _ h)
  · exact .inr (k _ h)
end Go.Proofs.YtflpiebiacainaaDoor
