/- Words and lexicons that the laws draw: they are small. Conditions: a source of which not too much has been asked. -/
import Derived.Test.YtflpiebiacainaaDoorIns
import Derived.Test.YtflpiebiacainaaDoorSrc
namespace Go.Proofs.YtflpiebiacainaaDoor
set_option linter.unusedVariables false
set_option linter.unusedSimpArgs false
open Go Go.RowKit
def someL : List ByteArray := [⟨#[97, 110]⟩, ⟨#[97, 116]⟩, ⟨#[97, 116, 101]⟩, ⟨#[101, 97, 114]⟩, ⟨#[101, 97, 114, 110]⟩, ⟨#[101, 97, 114, 115]⟩, ⟨#[101, 97, 115, 116]⟩, ⟨#[101, 97, 116]⟩, ⟨#[101, 97, 116, 101, 110]⟩, ⟨#[101, 97, 116, 115]⟩, ⟨#[101, 110]⟩, ⟨#[97, 110, 116]⟩, ⟨#[97, 110, 116, 115]⟩, ⟨#[97, 114, 101]⟩, ⟨#[97, 114, 101, 110, 97]⟩, ⟨#[97, 114, 116]⟩, ⟨#[97, 114, 116, 115]⟩, ⟨#[97, 115]⟩, ⟨#[101, 114]⟩, ⟨#[101, 115]⟩, ⟨#[105, 110]⟩, ⟨#[105, 115]⟩, ⟨#[110, 97]⟩, ⟨#[110, 101]⟩, ⟨#[110, 101, 97, 114]⟩, ⟨#[110, 101, 97, 116]⟩, ⟨#[110, 101, 115, 116]⟩, ⟨#[110, 101, 115, 116, 115]⟩, ⟨#[110, 101, 116]⟩, ⟨#[114, 97, 116]⟩, ⟨#[114, 97, 116, 101]⟩, ⟨#[114, 97, 116, 101, 115]⟩, ⟨#[114, 101]⟩, ⟨#[114, 101, 115, 116]⟩, ⟨#[115, 97, 116]⟩, ⟨#[115, 101, 97]⟩, ⟨#[115, 101, 97, 116]⟩, ⟨#[115, 101, 116]⟩, ⟨#[116, 97]⟩, ⟨#[116, 97, 114]⟩, ⟨#[116, 97, 114, 115]⟩, ⟨#[116, 97, 114, 116]⟩, ⟨#[116, 101, 97]⟩, ⟨#[116, 101, 97, 114]⟩, ⟨#[116, 101, 97, 115]⟩, ⟨#[116, 101, 110]⟩, ⟨#[116, 101, 114, 110]⟩, ⟨#[116, 101, 115, 116]⟩, ⟨#[116, 101, 115, 116, 115]⟩, ⟨#[116, 114, 101, 101, 115]⟩, ⟨#[98, 97, 110, 97, 110, 97]⟩, ⟨#[98, 101, 101]⟩, ⟨#[98, 101, 101, 110]⟩, ⟨#[98, 101, 101, 115]⟩, ⟨#[115, 116, 97, 114]⟩, ⟨#[115, 116, 97, 114, 101]⟩, ⟨#[115, 116, 97, 114, 116]⟩, ⟨#[116, 114, 101, 101]⟩, ⟨#[115, 116, 97, 114, 115]⟩, ⟨#[116, 114, 101, 97, 116, 115]⟩]
theorem own_new (w : World) (e : TypeId) (xs : List Value) (n : Nat) (h : n = xs.length) (hm : n ≤ maxLen) : Own (w.alloc (.cells xs.toArray e)) w.heap.size e 1 (some ⟨w.heap.size, 0, none⟩) n n xs := by
  subst h
  exact .inr ⟨by simp, .inr ⟨w.heap.size, xs.length, xs.toArray, rfl, Nat.le_refl _, heap_alloc_new w _, Nat.le_refl _, hm, by simp, by simp⟩⟩
set_option maxRecDepth 100000 in
theorem l05Some_any (w : World) : Calls Tryd.prog 18 #[] w (RetO someL w) := by
  go_enter Tryd.func18, Tryd.ntmps18
  go_wp2_with fail
  go_returns
  exact ⟨_, _, rfl, own_new w 9 (strsV someL) 60 (by rfl) (by unfold maxLen; omega), (Ext.refl w).alloc _⟩
end Go.Proofs.YtflpiebiacainaaDoor
