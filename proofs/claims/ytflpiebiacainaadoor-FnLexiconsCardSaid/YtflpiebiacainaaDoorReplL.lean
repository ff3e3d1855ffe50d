/- strings.ReplaceAll of one byte by nothing: the bytes that are left. Plain. No condition. -/
import Derived.Test.YtflpiebiacainaaDoorBytes
import Derived.Lib.Replace
import Derived.Lib.CountLaws
import Derived.Lib.IndexBytes
import Derived.Lib.IndexLaws
namespace Go.Proofs.YtflpiebiacainaaDoor
set_option linter.unusedVariables false
set_option linter.unusedSimpArgs false
open Go Go.RowKit
theorem replaceK_one (c : UInt8) : ∀ (n : Nat) (s : List UInt8), s.length ≤ n → Lib.replaceK [c] [] (Lib.count s [c]) s = s.filter (· != c)
  | n, s, hn => by
    have hge := Lib.index_ge s [c]
    by_cases hm : Lib.index s [c] = -1
    · rw [Lib.count_miss hm]
      unfold Lib.replaceK
      rw [Lib.index_one] at hm
      have hno := Lib.indexByte_none hm
      rw [List.filter_eq_self.2]
      intro x hx
      obtain ⟨i, hi⟩ := List.getElem?_of_mem hx
      simp only [bne_iff_ne, ne_eq]
      intro e
      subst e
      exact hno i hi
    · obtain ⟨i, hi⟩ : ∃ i : Nat, Lib.index s [c] = i := ⟨(Lib.index s [c]).toNat, by omega⟩
      rw [Lib.count_hit (by simp) hi, Nat.add_comm 1, Lib.replaceK_hit _ _ _ _ i hi]
      have hb := hi
      rw [Lib.index_one] at hb
      obtain ⟨h1, h2⟩ := Lib.indexByte_some hb
      have hil := (List.getElem?_eq_some_iff.1 h1).1
      have hget : s[i] = c := by rw [List.getElem?_eq_getElem hil] at h1; exact Option.some.inj h1
      match n with
      | 0 => omega
      | n + 1 =>
        simp only [List.length_singleton]
        rw [replaceK_one c n (s.drop (i + 1)) (by rw [List.length_drop]; omega)]
        have e1 : s.filter (· != c) = (s.take i).filter (· != c) ++ (s.drop i).filter (· != c) := by rw [← List.filter_append, List.take_append_drop]
        rw [e1, List.drop_eq_getElem_cons hil, hget, List.filter_cons]
        simp only [bne_self_eq_false, Bool.false_eq_true, if_false, List.append_nil]
        have e2 : (s.take i).filter (· != c) = s.take i := by
         rw [List.filter_eq_self]
         intro x hx
         obtain ⟨k, hk⟩ := List.getElem?_of_mem hx
         have hki : k < i := by
           have := (List.getElem?_eq_some_iff.1 hk).1
           rw [List.length_take] at this
           omega
         rw [List.getElem?_take_of_lt hki] at hk
         simp only [bne_iff_ne, ne_eq]
         intro e
         subst e
         exact h2 k hki hk
        simp only [List.append_nil] at *
        rw [e2]
def noDot (s : ByteArray) : ByteArray := ⟨(s.data.toList.filter (· != 46)).toArray⟩
theorem replaceAll_dot (s : ByteArray) : Lib.replaceAll s.data.toList [46] [] = s.data.toList.filter (· != 46) := by
  unfold Lib.replaceAll Lib.replace
  rw [if_neg (by decide)]
  unfold Lib.replaceNum
  rw [if_pos (.inl (by decide))]
  exact replaceK_one 46 _ _ (Nat.le_refl _)
theorem noDot_le (s : ByteArray) : (noDot s).size ≤ s.size := by
  show (s.data.toList.filter _).toArray.size ≤ s.data.size
  have := List.length_filter_le (fun x : UInt8 => x != 46) s.data.toList
  simpa using this
/-- Where some variable of the library's lies there is a number. -/
def MaxAt (w : World) : Prop := ∃ m : Int, w.cell? ⟨0, 0, none⟩ = some (.int .i64 m)
theorem MaxAt.ext {w w' : World} (h : MaxAt w) (k : Ext w w') : MaxAt w' := by
  obtain ⟨m, h⟩ := h
  exact ⟨m, k.cell h⟩
end Go.Proofs.YtflpiebiacainaaDoor
