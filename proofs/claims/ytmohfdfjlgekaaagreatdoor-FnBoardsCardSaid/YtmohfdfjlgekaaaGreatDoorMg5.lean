/- Several texts in one: Strs, OutS, ReplL. Conditions: see each. -/
import Derived.Test.YtmohfdfjlgekaaaGreatDoorMg2
import Derived.Test.YtmohfdfjlgekaaaGreatDoorMarkB
import Derived.Test.YtmohfdfjlgekaaaGreatDoorAppS
import Derived.Test.YtmohfdfjlgekaaaGreatDoorBytes
import Derived.Lib.Replace
import Derived.Lib.CountLaws
import Derived.Lib.IndexBytes
import Derived.Lib.IndexLaws
section
namespace Go.Proofs.YtmohfdfjlgekaaaGreatDoor
set_option linter.unusedVariables false
set_option linter.unusedSimpArgs false
open Go Go.RowKit

/-- A row in a block from B on that may be written; or none. -/
def OwnR (w : World) (B : Nat) (a : Option Addr) (xs : List Value) : Prop := xs = [] ∨ ∃ g, a = some ⟨g, 0, none⟩ ∧ B ≤ g ∧ Wr w g xs
theorem OwnR.rd {w : World} {B : Nat} {a : Option Addr} {xs : List Value} (h : OwnR w B a xs) : Rd w a xs := by
  rcases h with rfl | ⟨g, rfl, _, h⟩
  · exact Rd.nil _ _
  · exact h.rd
theorem OwnR.ext {w w' : World} {B : Nat} {a : Option Addr} {xs : List Value} (h : OwnR w B a xs) (k : Ext w w') : OwnR w' B a xs := by
  rcases h with rfl | ⟨g, rfl, hb, h⟩
  · exact .inl rfl
  · exact .inr ⟨g, rfl, hb, h.ext k⟩
theorem OwnR.mono {w : World} {B B' : Nat} {a : Option Addr} {xs : List Value} (h : OwnR w B a xs) (hB : B' ≤ B) : OwnR w B' a xs := by
  rcases h with rfl | ⟨g, rfl, hb, h⟩
  · exact .inl rfl
  · exact .inr ⟨g, rfl, Nat.le_trans hB hb, h⟩
theorem Own.ownR {w : World} {B : Nat} {e : TypeId} {a : Option Addr} {n c : Nat} {xs : List Value} (h : Own w B e 1 a n c xs) : OwnR w B a xs := by
  by_cases hn : 0 < n
  · obtain ⟨g, rfl, hB, _, _, h1⟩ := h.form hn
    exact .inr ⟨g, rfl, hB, Wr.of h1⟩
  · have : xs.length = 0 := by rw [h.length]; omega
    exact .inl (List.eq_nil_of_length_eq_zero this)
/-- A row comes back, which is the call's own. -/
def RetL (xs : List Value) (w : World) (e : Ending) (w' : World) : Prop := ∃ a c, e = .returned (.slice a xs.length c) ∧ OwnR w' w.heap.size a xs ∧ Ext w w'

theorem strsV_get (l : List ByteArray) (k : Nat) (h : k < l.length) : (strsV l)[k]? = some (.string l[k]) := by simp [strsV, h]
/-- The cells, by a fact for each. -/
theorem Rd.str {w : World} {a : Option Addr} {l : List ByteArray} (h : Rd w a (strsV l)) (hn : 0 < l.length) : ∃ b o, a = some ⟨b, o, none⟩ ∧ ∀ k (hk : k < l.length), w.cell? ⟨b, o + k, none⟩ = some (.string l[k]) := by
  obtain ⟨b, o, ha, hc⟩ := h.at (by rw [strsV_length]; exact hn)
  exact ⟨b, o, ha, fun k hk => hc k _ (strsV_get l k hk)⟩

def szG : Int → List ByteArray → Int
  | L, [] => L
  | L, s :: r => if L < s.size then -1 else szG (L - s.size) r
def szL (L : Int) (l : List ByteArray) : Int := if L < l.length then -1 else szG (L - l.length) l
def sumL (l : List ByteArray) : Nat := (l.map ByteArray.size).sum
theorem szG_ok : ∀ (L : Int) (l : List ByteArray), 0 ≤ L → ¬ szG L l < 0 → (sumL l : Int) ≤ L ∧ szG L l = L - sumL l
  | L, [], h0, h => by simp [szG, sumL]; exact h0
  | L, s :: r, h0, h => by
    rw [szG] at h ⊢
    split at h
    · omega
    · rename_i hs
      have := szG_ok (L - s.size) r (by omega) h
      rw [if_neg hs]
      simp only [sumL, List.map_cons, List.sum_cons] at *
      omega
theorem sumL_mem {l : List ByteArray} {s : ByteArray} (h : s ∈ l) : s.size ≤ sumL l := by
  induction l with
  | nil => cases h
  | cons a r ih =>
    simp only [sumL, List.map_cons, List.sum_cons] at *
    rcases List.mem_cons.1 h with rfl | h
    · omega
    · have := ih h; omega
theorem szL_ok {L : Int} {l : List ByteArray} (h0 : 0 ≤ L) (h : ¬ szL L l < 0) : (l.length : Int) + sumL l ≤ L ∧ szL L l = L - l.length - sumL l := by
  unfold szL at *
  split at h
  · omega
  · rename_i hs
    have := szG_ok _ _ (by omega) h
    rw [if_neg hs]
    omega
theorem szG_drop (L : Int) (l : List ByteArray) (k : Nat) (h : k < l.length) : szG L (l.drop k) = if L < l[k].size then -1 else szG (L - l[k].size) (l.drop (k + 1)) := by
  rw [List.drop_eq_getElem_cons h, szG]
def digs (k : Nat) (acc : List UInt8) : List UInt8 := if h : k = 0 then acc else digs (k / 10) (UInt8.ofNat (48 + k % 10) :: acc)
termination_by k
decreasing_by omega
theorem digs_step (k : Nat) (acc : List UInt8) (h : 0 < k) : digs k acc = digs (k / 10) (UInt8.ofNat (48 + k % 10) :: acc) := by
  rw [digs, dif_neg (by omega)]
theorem digs_zero (acc : List UInt8) : digs 0 acc = acc := by rw [digs, dif_pos rfl]
def markTx (k : Nat) : ByteArray := ⟨(109 :: digs k []).toArray⟩
theorem cons_bytes (x : UInt8) (l : List UInt8) : (⟨[x].toArray⟩ : ByteArray) ++ ⟨l.toArray⟩ = ⟨(x :: l).toArray⟩ := by
  apply ByteArray.ext
  simp
def marksL (n k : Nat) : List ByteArray := (List.range n).map fun j => markTx (k + j)
theorem marksL_length (n k : Nat) : (marksL n k).length = n := by simp [marksL]
end Go.Proofs.YtmohfdfjlgekaaaGreatDoor
end
section
namespace Go.Proofs.YtmohfdfjlgekaaaGreatDoor
set_option linter.unusedVariables false
set_option linter.unusedSimpArgs false
open Go Go.RowKit
def Out (w : World) (B g c : Nat) (T : List ByteArray) : Prop := Own w B 9 1 (some ⟨g, 0, none⟩) T.length c (strsV T) ∧ B ≤ g ∧ g < w.heap.size
theorem Out.ext {w w' : World} {B g c : Nat} {T : List ByteArray} (h : Out w B g c T) (k : Ext w w') : Out w' B g c T := ⟨h.1.ext k, h.2.1, Nat.lt_of_lt_of_le h.2.2 k.size⟩
theorem Out.nil (w : World) (B g : Nat) (h1 : B ≤ g) (h2 : g < w.heap.size) : Out w B g 0 [] := ⟨Own.empty _ _ _ _ _, h1, h2⟩
theorem Out.push {w w' : World} {B g c g' c' : Nat} {T : List ByteArray} {x : ByteArray} (h : Out w B g c T) (ho : Own w' B 9 1 (some ⟨g', 0, none⟩) (T.length + 1) c' (strsV T ++ [.string x])) : Out w' B g' c' (T ++ [x]) := by
  obtain ⟨g9, e, h1, h2, -, -⟩ := ho.form (by omega)
  simp only [Option.some.injEq, Addr.mk.injEq, and_true] at e
  subst e
  refine ⟨?_, h1, h2⟩
  rw [List.length_append, strsV_append]
  exact ho
/-- A row of strings in a block. -/
def Rq (w : World) (q : Nat) (Q : List ByteArray) : Prop := Rd w (some ⟨q, 0, none⟩) (strsV Q) ∧ q < w.heap.size
theorem Rq.ext {w w' : World} {q : Nat} {Q : List ByteArray} (h : Rq w q Q) (k : Ext w w') : Rq w' q Q := ⟨h.1.ext k, Nat.lt_of_lt_of_le h.2 k.size⟩
theorem Rq.push {w w' : World} {q g : Nat} {Q : List ByteArray} (h : Rq w q Q) (k : w.grownBy w' (some g)) (hne : q ≠ g) : Rq w' q Q := ⟨h.1.grownBy k h.2 (by simpa using hne), Nat.lt_of_lt_of_le h.2 k.size⟩
theorem Rq.at {w : World} {q : Nat} {Q : List ByteArray} (h : Rq w q Q) (j : Nat) (hj : j < Q.length) : w.cell? ⟨q, j, none⟩ = some (.string Q[j]) := by
  obtain ⟨b, o, e, hc⟩ := h.1 j (.string Q[j]) (strsV_get Q j hj)
  simp only [Option.some.injEq, Addr.mk.injEq, and_true] at e
  obtain ⟨rfl, rfl⟩ := e
  simpa using hc
theorem Rq.of {w w' : World} {B : Nat} {a : Option Addr} {n c : Nat} {Q : List ByteArray} (h : Own w B 9 1 a n c (strsV Q)) (hn : 0 < n) : ∃ q, a = some ⟨q, 0, none⟩ ∧ B ≤ q ∧ Rq w q Q := by
  obtain ⟨g, e, h1, h2, -, -⟩ := h.form hn
  subst e
  exact ⟨g, rfl, h1, h.rd, h2⟩
theorem ext_pushed {w w' w'' : World} {g : Nat} (k : Ext w w') (h : w'.grownBy w'' (some g)) (hg : w.heap.size ≤ g) : Ext w w'' := Below.grown k h k.size (fun j hj => by cases hj; exact hg)
theorem sep_ne {w : World} {q g g' : Nat} (hq : q < w.heap.size) (hne : q ≠ g) (h : g' = g ∨ w.heap.size ≤ g') : q ≠ g' := by
  rcases h with h | h <;> omega
end Go.Proofs.YtmohfdfjlgekaaaGreatDoor
end
section
namespace Go.Proofs.YtmohfdfjlgekaaaGreatDoor
set_option linter.unusedVariables false
set_option linter.unusedSimpArgs false
open Go Go.RowKit
theorem replaceK_one (c : UInt8) : ∀ (n : Nat) (s : List UInt8), s.length ≤ n → Lib.replaceK [c] [] (Lib.count s [c]) s = s.filter (· != c)
  | n, s, hn => by
    have hge := Lib.index_ge s [c]
    by_cases hm : Lib.index s [c] = -1
    · rw [Lib.count_miss hm]
      unfold Lib.replaceK
      rw [Lib.index_one] at hm
      have hno := Lib.indexByte_none hm
      rw [List.filter_eq_self.2]
      intro x hx
      obtain ⟨i, hi⟩ := List.getElem?_of_mem hx
      simp only [bne_iff_ne, ne_eq]
      intro e
      subst e
      exact hno i hi
    · obtain ⟨i, hi⟩ : ∃ i : Nat, Lib.index s [c] = i := ⟨(Lib.index s [c]).toNat, by omega⟩
      rw [Lib.count_hit (by simp) hi, Nat.add_comm 1, Lib.replaceK_hit _ _ _ _ i hi]
      have hb := hi
      rw [Lib.index_one] at hb
      obtain ⟨h1, h2⟩ := Lib.indexByte_some hb
      have hil := (List.getElem?_eq_some_iff.1 h1).1
      have hget : s[i] = c := by rw [List.getElem?_eq_getElem hil] at h1; exact Option.some.inj h1
      match n with
      | 0 => omega
      | n + 1 =>
        simp only [List.length_singleton]
        rw [replaceK_one c n (s.drop (i + 1)) (by rw [List.length_drop]; omega)]
        have e1 : s.filter (· != c) = (s.take i).filter (· != c) ++ (s.drop i).filter (· != c) := by rw [← List.filter_append, List.take_append_drop]
        rw [e1, List.drop_eq_getElem_cons hil, hget, List.filter_cons]
        simp only [bne_self_eq_false, Bool.false_eq_true, if_false, List.append_nil]
        have e2 : (s.take i).filter (· != c) = s.take i := by
         rw [List.filter_eq_self]
         intro x hx
         obtain ⟨k, hk⟩ := List.getElem?_of_mem hx
         have hki : k < i := by
           have := (List.getElem?_eq_some_iff.1 hk).1
           rw [List.length_take] at this
           omega
         rw [List.getElem?_take_of_lt hki] at hk
         simp only [bne_iff_ne, ne_eq]
         intro e
         subst e
         exact h2 k hki hk
        simp only [List.append_nil] at *
        rw [e2]
def noDot (s : ByteArray) : ByteArray := ⟨(s.data.toList.filter (· != 46)).toArray⟩
theorem replaceAll_dot (s : ByteArray) : Lib.replaceAll s.data.toList [46] [] = s.data.toList.filter (· != 46) := by
  unfold Lib.replaceAll Lib.replace
  rw [if_neg (by decide)]
  unfold Lib.replaceNum
  rw [if_pos (.inl (by decide))]
  exact replaceK_one 46 _ _ (Nat.le_refl _)
theorem noDot_le (s : ByteArray) : (noDot s).size ≤ s.size := by
  show (s.data.toList.filter _).toArray.size ≤ s.data.size
  have := List.length_filter_le (fun x : UInt8 => x != 46) s.data.toList
  simpa using this
/-- Where some variable of the library's lies there is a number. -/
def MaxAt (w : World) : Prop := ∃ m : Int, w.cell? ⟨0, 0, none⟩ = some (.int .i64 m)
theorem MaxAt.ext {w w' : World} (h : MaxAt w) (k : Ext w w') : MaxAt w' := by
  obtain ⟨m, h⟩ := h
  exact ⟨m, k.cell h⟩
end Go.Proofs.YtmohfdfjlgekaaaGreatDoor
end
