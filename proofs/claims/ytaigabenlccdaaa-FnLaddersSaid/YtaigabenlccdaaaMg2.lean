/- Several texts in one: DrawW, TxtN. Conditions: see each. -/
import Derived.Test.YtaigabenlccdaaaIns
import Derived.Test.YtaigabenlccdaaaSrc
section
namespace Go.Proofs.Ytaigabenlccdaaa
set_option linter.unusedVariables false
set_option linter.unusedSimpArgs false
open Go Go.RowKit
def someL : List ByteArray := [⟨#[97, 110]⟩, ⟨#[97, 116]⟩, ⟨#[97, 116, 101]⟩, ⟨#[101, 97, 114]⟩, ⟨#[101, 97, 114, 110]⟩, ⟨#[101, 97, 114, 115]⟩, ⟨#[101, 97, 115, 116]⟩, ⟨#[101, 97, 116]⟩, ⟨#[101, 97, 116, 101, 110]⟩, ⟨#[101, 97, 116, 115]⟩, ⟨#[101, 110]⟩, ⟨#[97, 110, 116]⟩, ⟨#[97, 110, 116, 115]⟩, ⟨#[97, 114, 101]⟩, ⟨#[97, 114, 101, 110, 97]⟩, ⟨#[97, 114, 116]⟩, ⟨#[97, 114, 116, 115]⟩, ⟨#[97, 115]⟩, ⟨#[101, 114]⟩, ⟨#[101, 115]⟩, ⟨#[105, 110]⟩, ⟨#[105, 115]⟩, ⟨#[110, 97]⟩, ⟨#[110, 101]⟩, ⟨#[110, 101, 97, 114]⟩, ⟨#[110, 101, 97, 116]⟩, ⟨#[110, 101, 115, 116]⟩, ⟨#[110, 101, 115, 116, 115]⟩, ⟨#[110, 101, 116]⟩, ⟨#[114, 97, 116]⟩, ⟨#[114, 97, 116, 101]⟩, ⟨#[114, 97, 116, 101, 115]⟩, ⟨#[114, 101]⟩, ⟨#[114, 101, 115, 116]⟩, ⟨#[115, 97, 116]⟩, ⟨#[115, 101, 97]⟩, ⟨#[115, 101, 97, 116]⟩, ⟨#[115, 101, 116]⟩, ⟨#[116, 97]⟩, ⟨#[116, 97, 114]⟩, ⟨#[116, 97, 114, 115]⟩, ⟨#[116, 97, 114, 116]⟩, ⟨#[116, 101, 97]⟩, ⟨#[116, 101, 97, 114]⟩, ⟨#[116, 101, 97, 115]⟩, ⟨#[116, 101, 110]⟩, ⟨#[116, 101, 114, 110]⟩, ⟨#[116, 101, 115, 116]⟩, ⟨#[116, 101, 115, 116, 115]⟩, ⟨#[116, 114, 101, 101, 115]⟩, ⟨#[98, 97, 110, 97, 110, 97]⟩, ⟨#[98, 101, 101]⟩, ⟨#[98, 101, 101, 110]⟩, ⟨#[98, 101, 101, 115]⟩, ⟨#[115, 116, 97, 114]⟩, ⟨#[115, 116, 97, 114, 101]⟩, ⟨#[115, 116, 97, 114, 116]⟩, ⟨#[116, 114, 101, 101]⟩, ⟨#[115, 116, 97, 114, 115]⟩, ⟨#[116, 114, 101, 97, 116, 115]⟩]
theorem own_new (w : World) (e : TypeId) (xs : List Value) (n : Nat) (h : n = xs.length) (hm : n ≤ maxLen) : Own (w.alloc (.cells xs.toArray e)) w.heap.size e 1 (some ⟨w.heap.size, 0, none⟩) n n xs := by
  subst h
  exact .inr ⟨by simp, .inr ⟨w.heap.size, xs.length, xs.toArray, rfl, Nat.le_refl _, heap_alloc_new w _, Nat.le_refl _, hm, by simp, by simp⟩⟩
set_option maxRecDepth 100000 in
theorem l05Some_any (w : World) : Calls Try.prog 61 #[] w (RetO someL w) := by
  go_enter Try.func61, Try.ntmps61
  go_wp2_with fail
  go_returns
  exact ⟨_, _, rfl, own_new w 9 (strsV someL) 60 (by rfl) (by unfold maxLen; omega), (Ext.refl w).alloc _⟩
end Go.Proofs.Ytaigabenlccdaaa
end
section
namespace Go.Proofs.Ytaigabenlccdaaa
set_option linter.unusedVariables false
set_option linter.unusedSimpArgs false
open Go Go.RowKit
theorem short_mem {l : List ByteArray} {m : Nat} (h : l.all (fun s => decide (s.size ≤ m)) = true) {y : ByteArray} (hy : y ∈ l) : y.size ≤ m := by
  have := List.all_eq_true.1 h y hy
  simpa using this
/-- Strings to choose from. -/
theorem rd_new {w : World} {b : Nat} (hb : w.heap.size = b) (xs : List Value) (t : TypeId) : Rd (w.alloc (.cells xs.toArray t)) (some ⟨b, 0, none⟩) xs := fun j u hj => by
  subst hb
  refine ⟨w.heap.size, 0, rfl, ?_⟩
  rw [cell_of_row _ _ _ _ _ _ (heap_alloc_new w _)]
  simpa using hj
/-- A choice from texts that are laid for it. -/
theorem text_new (g K n : Nat) (xs : List ByteArray) (w : World) (hs : Src w g K) (hk : K ≤ 1099511627000) (hn : n = xs.length) (h0 : 0 < n) (h1 : n ≤ 100) (hall : xs.all (fun s => decide (s.size ≤ 100)) = true) :
    Calls Try.prog 41 #[.pointer (some ⟨g, 0, none⟩), .slice (some ⟨w.heap.size, 0, none⟩) n n] (w.alloc (.cells (xs.map Value.string).toArray 9)) (Drew g K 2 (fun v _ => ∃ y : ByteArray, y.size ≤ 100 ∧ v = .string y) (w.alloc (.cells (xs.map Value.string).toArray 9))) := by
  subst hn
  refine (text_any g K _ _ xs _ (hs.ext ((Ext.refl _).alloc _)) hk (rd_new rfl _ _) h0 (by omega) (fun y e => by cases e; exact Nat.ne_of_gt hs.lt)).mono ?_
  rintro e w' ⟨v, he, ⟨y, hy, e2⟩, hx, hS⟩
  exact ⟨v, he, ⟨y, by have := List.all_eq_true.1 hall y hy; simpa using this, e2⟩, hx, hS⟩
end Go.Proofs.Ytaigabenlccdaaa
end
