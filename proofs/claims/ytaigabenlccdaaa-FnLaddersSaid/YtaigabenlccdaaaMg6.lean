/- Several texts in one: Ch10f, Ch10g, Ch10h, Ch10i, Ch10k, Ch10l. Conditions: see each. -/
import Derived.Test.YtaigabenlccdaaaCh10e
import Derived.Lib.OthersKept
import Derived.Test.YtaigabenlccdaaaCh05b
import Derived.Test.YtaigabenlccdaaaMg3
section
namespace Go.Proofs.Ytaigabenlccdaaa
set_option linter.unusedVariables false
set_option linter.unusedSimpArgs false
open Go Go.RowKit
end Go.Proofs.Ytaigabenlccdaaa
end
section
namespace Go.Proofs.Ytaigabenlccdaaa
set_option linter.unusedVariables false
set_option linter.unusedSimpArgs false
open Go Go.RowKit
/-- The bytes without the one at a place. -/
def cutAt (q : ByteArray) (i : Nat) : ByteArray := q.extract 0 i ++ q.extract (i + 1) q.size
def dropB (p q : ByteArray) : Bool := (List.range q.size).any fun i => (cutAt q i).toList == p.toList
theorem cutAt_size (q : ByteArray) (i : Nat) (h : i < q.size) : (cutAt q i).size + 1 = q.size := by
  unfold cutAt
  rw [ByteArray.size_append, ByteArray.size_extract, ByteArray.size_extract]
  omega
theorem dropB_yes {p q : ByteArray} (i : Nat) (h : i < q.size) (he : ((cutAt q i).toList == p.toList) = true) : dropB p q = true := by
  unfold dropB
  rw [List.any_eq_true]
  exact ⟨i, List.mem_range.2 h, he⟩
theorem dropB_no {p q : ByteArray} (h : ∀ i, i < q.size → ((cutAt q i).toList == p.toList) = false) : dropB p q = false := by
  unfold dropB
  rw [List.any_eq_false]
  intro i hi
  rw [h i (List.mem_range.1 hi)]
  simp
theorem dropB_size {p q : ByteArray} (h : p.size + 1 ≠ q.size) : dropB p q = false := by
  refine dropB_no fun i hi => ?_
  rw [beq_eq_false_iff_ne]
  intro e
  have := cutAt_size q i hi
  rw [Lib.toList_data, Lib.toList_data] at e
  have e2 : (cutAt q i).size = p.size := by rw [Lib.size_eq, Lib.size_eq, e]
  omega
end Go.Proofs.Ytaigabenlccdaaa
end
section
namespace Go.Proofs.Ytaigabenlccdaaa
set_option linter.unusedVariables false
set_option linter.unusedSimpArgs false
open Go Go.RowKit
end Go.Proofs.Ytaigabenlccdaaa
end
section
namespace Go.Proofs.Ytaigabenlccdaaa
set_option linter.unusedVariables false
set_option linter.unusedSimpArgs false
open Go Go.RowKit
theorem small_ascii {s : ByteArray} (h : allB smallB s = true) : ∀ k (hk : k < s.size), s[k].toNat < 128 := by
  intro k hk
  unfold allB at h
  rw [List.all_eq_true] at h
  have h' : k < s.data.size := hk
  have := h s[k] (Array.mem_toList_iff.2 (Array.getElem_mem h'))
  simp only [smallB, decide_eq_true_eq] at this
  omega
theorem word_ascii {s : ByteArray} (h : wordOk s = true) : ∀ k (hk : k < s.size), s[k].toNat < 128 := by
  unfold wordOk at h
  rw [Bool.and_eq_true] at h
  exact small_ascii h.2
theorem lex_word {l : List ByteArray} (h : lexOk l = true) : ∀ s ∈ l, wordOk s = true := by
  unfold lexOk at h
  rw [Bool.and_eq_true, Bool.and_eq_true] at h
  intro s hs
  have := List.all_eq_true.1 h.2.2 s hs
  unfold longOk at this
  rw [Bool.and_eq_true] at this
  exact this.2
end Go.Proofs.Ytaigabenlccdaaa
end
section
namespace Go.Proofs.Ytaigabenlccdaaa
set_option linter.unusedVariables false
set_option linter.unusedSimpArgs false
open Go Go.RowKit
theorem bld_below {T e : TypeId} {B b : Nat} {bs : List Value} {w w' : World} (h : Lib.IsBuilderF T e B b bs w) (hx : Ext w w') : Lib.IsBuilderF T e B b bs w' := by
  have k : ∀ p, Lib.BuilderAtF T e B b p bs w → Lib.BuilderAtF T e B b p bs w' := by
    intro p hp
    have hlt := hp.lt
    obtain ⟨h1, v, h2, h3, h4⟩ := hp
    refine ⟨h1, v, by rw [hx.below.block b hlt]; exact h2, ?_, h4⟩
    obtain ⟨g1, g2⟩ := h3
    refine ⟨g1, ?_⟩
    rcases g2 with g2 | ⟨g, cap, cur, fr, hv, hg, hh, r⟩
    · exact .inl g2
    · exact .inr ⟨g, cap, cur, fr, hv, hg, by rw [hx.below.block g (Array.getElem?_eq_some_iff.1 hh).1]; exact hh, r⟩
  rcases h with h | h
  · exact .inl (k _ h)
  · exact .inr (k _ h)
def chS (k : Nat) : ByteArray := ⟨#[UInt8.ofNat (97 + k)]⟩
theorem chS_size (k : Nat) : (chS k).size = 1 := rfl
theorem enc_ch (k : Nat) (h : k < 26) : Utf8.encode (97 + (k : Int)) = chS k := by
  have : ∀ x : Fin 26, Utf8.encode (97 + ((x.val : Nat) : Int)) = chS x.val := by decide +kernel
  exact this ⟨k, h⟩
def hkB (l : List ByteArray) (p q : ByteArray) (k : Nat) : Bool := hasL l (p ++ chS k ++ q)
def hkL (l : List ByteArray) (p q : ByteArray) (m : Nat) : List UInt8 := ((List.range m).filter (hkB l p q)).map fun k => UInt8.ofNat (97 + k)
theorem hkL_succ (l : List ByteArray) (p q : ByteArray) (m : Nat) : hkL l p q (m + 1) = hkL l p q m ++ if hkB l p q m then [UInt8.ofNat (97 + m)] else [] := by
  unfold hkL
  rw [List.range_succ, List.filter_append, List.map_append]
  cases h : hkB l p q m <;> simp [h]
theorem hkL_le (l : List ByteArray) (p q : ByteArray) (m : Nat) : (hkL l p q m).length ≤ m := by
  unfold hkL
  rw [List.length_map]
  have := List.length_filter_le (hkB l p q) (List.range m)
  rw [List.length_range] at this
  exact this
def hookS (l : List ByteArray) (p q : ByteArray) : ByteArray := ⟨(hkL l p q 26).toArray⟩
theorem u8_ch (k : Nat) (h : k < 26) : ((UInt8.ofNat (97 + k)).toNat : Int) = 97 + (k : Int) := by simp; omega
def hooksV (l : List ByteArray) (s p q : ByteArray) : ByteArray := if askC l s = 0 then hookS l p q else ⟨#[]⟩
def noB : ByteArray := ⟨#[]⟩
end Go.Proofs.Ytaigabenlccdaaa
end
section
namespace Go.Proofs.Ytaigabenlccdaaa
set_option linter.unusedVariables false
set_option linter.unusedSimpArgs false
open Go Go.RowKit
theorem chS_bytes (z : Int) (k : Nat) (h : z = 97 + (k : Int)) (hk : k < 26) : bytesV [UInt8.ofNat (97 + k)] = [Value.int .u8 z] := by
  rw [bytesV, List.map_cons, List.map_nil, u8_ch k hk, h]
theorem hookS_snoc (l : List UInt8) (k : Nat) : (⟨l.toArray⟩ : ByteArray) ++ chS k = ⟨(l ++ [UInt8.ofNat (97 + k)]).toArray⟩ := by
  apply ByteArray.ext
  simp [chS]
end Go.Proofs.Ytaigabenlccdaaa
end
