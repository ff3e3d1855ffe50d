/- Lists of strings in memory: what the laws' own functions on them compute. Conditions: at most 2^20 elements. -/
import Derived.Test.YtflpiebiacainaaDoorStrV
import Derived.Test.YtflpiebiacainaaDoorMarkB
namespace Go.Proofs.YtflpiebiacainaaDoor
set_option linter.unusedVariables false
set_option linter.unusedSimpArgs false
open Go Go.RowKit

/-- A row in a block from B on that may be written; or none. -/
def OwnR (w : World) (B : Nat) (a : Option Addr) (xs : List Value) : Prop := xs = [] ∨ ∃ g, a = some ⟨g, 0, none⟩ ∧ B ≤ g ∧ Wr w g xs
theorem OwnR.rd {w : World} {B : Nat} {a : Option Addr} {xs : List Value} (h : OwnR w B a xs) : Rd w a xs := by
  rcases h with rfl | ⟨g, rfl, _, h⟩
  · exact Rd.nil _ _
  · exact h.rd
theorem OwnR.ext {w w' : World} {B : Nat} {a : Option Addr} {xs : List Value} (h : OwnR w B a xs) (k : Ext w w') : OwnR w' B a xs := by
  rcases h with rfl | ⟨g, rfl, hb, h⟩
  · exact .inl rfl
  · exact .inr ⟨g, rfl, hb, h.ext k⟩
theorem OwnR.mono {w : World} {B B' : Nat} {a : Option Addr} {xs : List Value} (h : OwnR w B a xs) (hB : B' ≤ B) : OwnR w B' a xs := by
  rcases h with rfl | ⟨g, rfl, hb, h⟩
  · exact .inl rfl
  · exact .inr ⟨g, rfl, Nat.le_trans hB hb, h⟩
theorem Own.ownR {w : World} {B : Nat} {e : TypeId} {a : Option Addr} {n c : Nat} {xs : List Value} (h : Own w B e 1 a n c xs) : OwnR w B a xs := by
  by_cases hn : 0 < n
  · obtain ⟨g, rfl, hB, _, _, h1⟩ := h.form hn
    exact .inr ⟨g, rfl, hB, Wr.of h1⟩
  · have : xs.length = 0 := by rw [h.length]; omega
    exact .inl (List.eq_nil_of_length_eq_zero this)
/-- A row comes back, which is the call's own. -/
def RetL (xs : List Value) (w : World) (e : Ending) (w' : World) : Prop := ∃ a c, e = .returned (.slice a xs.length c) ∧ OwnR w' w.heap.size a xs ∧ Ext w w'

theorem strsV_get (l : List ByteArray) (k : Nat) (h : k < l.length) : (strsV l)[k]? = some (.string l[k]) := by simp [strsV, h]
/-- The cells, by a fact for each. -/
theorem Rd.str {w : World} {a : Option Addr} {l : List ByteArray} (h : Rd w a (strsV l)) (hn : 0 < l.length) : ∃ b o, a = some ⟨b, o, none⟩ ∧ ∀ k (hk : k < l.length), w.cell? ⟨b, o + k, none⟩ = some (.string l[k]) := by
  obtain ⟨b, o, ha, hc⟩ := h.at (by rw [strsV_length]; exact hn)
  exact ⟨b, o, ha, fun k hk => hc k _ (strsV_get l k hk)⟩

def szG : Int → List ByteArray → Int
  | L, [] => L
  | L, s :: r => if L < s.size then -1 else szG (L - s.size) r
def szL (L : Int) (l : List ByteArray) : Int := if L < l.length then -1 else szG (L - l.length) l
def sumL (l : List ByteArray) : Nat := (l.map ByteArray.size).sum
theorem szG_ok : ∀ (L : Int) (l : List ByteArray), 0 ≤ L → ¬ szG L l < 0 → (sumL l : Int) ≤ L ∧ szG L l = L - sumL l
  | L, [], h0, h => by simp [szG, sumL]; exact h0
  | L, s :: r, h0, h => by
    rw [szG] at h ⊢
    split at h
    · omega
    · rename_i hs
      have := szG_ok (L - s.size) r (by omega) h
      rw [if_neg hs]
      simp only [sumL, List.map_cons, List.sum_cons] at *
      omega
theorem sumL_mem {l : List ByteArray} {s : ByteArray} (h : s ∈ l) : s.size ≤ sumL l := by
  induction l with
  | nil => cases h
  | cons a r ih =>
    simp only [sumL, List.map_cons, List.sum_cons] at *
    rcases List.mem_cons.1 h with rfl | h
    · omega
    · have := ih h; omega
theorem szL_ok {L : Int} {l : List ByteArray} (h0 : 0 ≤ L) (h : ¬ szL L l < 0) : (l.length : Int) + sumL l ≤ L ∧ szL L l = L - l.length - sumL l := by
  unfold szL at *
  split at h
  · omega
  · rename_i hs
    have := szG_ok _ _ (by omega) h
    rw [if_neg hs]
    omega
theorem szG_drop (L : Int) (l : List ByteArray) (k : Nat) (h : k < l.length) : szG L (l.drop k) = if L < l[k].size then -1 else szG (L - l[k].size) (l.drop (k + 1)) := by
  rw [List.drop_eq_getElem_cons h, szG]
def digs (k : Nat) (acc : List UInt8) : List UInt8 := if h : k = 0 then acc else digs (k / 10) (UInt8.ofNat (48 + k % 10) :: acc)
termination_by k
decreasing_by omega
theorem digs_step (k : Nat) (acc : List UInt8) (h : 0 < k) : digs k acc = digs (k / 10) (UInt8.ofNat (48 + k % 10) :: acc) := by
  rw [digs, dif_neg (by omega)]
theorem digs_zero (acc : List UInt8) : digs 0 acc = acc := by rw [digs, dif_pos rfl]
def markTx (k : Nat) : ByteArray := ⟨(109 :: digs k []).toArray⟩
theorem cons_bytes (x : UInt8) (l : List UInt8) : (⟨[x].toArray⟩ : ByteArray) ++ ⟨l.toArray⟩ = ⟨(x :: l).toArray⟩ := by
  apply ByteArray.ext
  simp
def marksL (n k : Nat) : List ByteArray := (List.range n).map fun j => markTx (k + j)
theorem marksL_length (n k : Nat) : (marksL n k).length = n := by simp [marksL]
end Go.Proofs.YtflpiebiacainaaDoor
