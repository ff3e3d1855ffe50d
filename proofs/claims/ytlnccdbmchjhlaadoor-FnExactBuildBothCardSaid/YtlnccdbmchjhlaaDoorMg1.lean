/- Several texts in one: StrV, MarkB. Conditions: see each. -/
import Derived.Test.YtlnccdbmchjhlaaDoorBytes
section
namespace Go.Proofs.YtlnccdbmchjhlaaDoor
set_option linter.unusedVariables false
set_option linter.unusedSimpArgs false
open Go Go.RowKit
theorem El_str : El Tryd.prog 22 9 (.string ⟨#[]⟩) 1 16 := by
  obtain ⟨i, h1, h2, h3, h4⟩ := info_parts (show (Tryd.prog.info? 9).map (fun i => (i.zero, i.size, i.bytes)) = some (some (.string ⟨#[]⟩), 1, 16) by kernel_rfl)
  exact ⟨Tryd.underlying22, ⟨i, h1, h2, h3, h4⟩, rfl, by decide⟩
def strsV (l : List ByteArray) : List Value := l.map Value.string
theorem strsV_length (l : List ByteArray) : (strsV l).length = l.length := by simp [strsV]
theorem strsV_append (l r : List ByteArray) : strsV (l ++ r) = strsV l ++ strsV r := by simp [strsV]
end Go.Proofs.YtlnccdbmchjhlaaDoor
end
section
namespace Go.Proofs.YtlnccdbmchjhlaaDoor
set_option linter.unusedVariables false
set_option linter.unusedSimpArgs false
open Go Go.RowKit
/-- All but one block is as it was. -/
structure Exc (g : Nat) (w w' : World) : Prop where
  os : w'.os = w.os
  tape : w'.tape = w.tape
  output : w'.output = w.output
  size : w.heap.size ≤ w'.heap.size
  block : ∀ k, k < w.heap.size → k ≠ g → w'.heap[k]? = w.heap[k]?
theorem Exc.refl (g : Nat) (w : World) : Exc g w w := ⟨rfl, rfl, rfl, Nat.le_refl _, fun _ _ _ => rfl⟩
theorem Exc.ext {g : Nat} {w w' w'' : World} (h : Exc g w w') (k : Ext w' w'') : Exc g w w'' :=
  ⟨k.below.os.trans h.os, k.below.tape.trans h.tape, k.below.output.trans h.output, Nat.le_trans h.size k.size, fun q hq hg => (k.below.block q (Nat.lt_of_lt_of_le hq h.size)).trans (h.block q hq hg)⟩
theorem Exc.setCell {g : Nat} {w w' : World} (h : Exc g w w') (j : Nat) (u : Value) : Exc g w (w'.setCell ⟨g, j, none⟩ u) := by
  refine ⟨h.os, h.tape, h.output, Nat.le_trans h.size (by simp [World.setCell]), fun k hk hg => ?_⟩
  rw [← h.block k hk hg]
  simp [World.setCell, Array.getElem?_modify, Ne.symm hg]
theorem Exc.cell {g : Nat} {w w' : World} (h : Exc g w w') {b o : Nat} {v : Value} (hv : w.cell? ⟨b, o, none⟩ = some v) (hb : b ≠ g) : w'.cell? ⟨b, o, none⟩ = some v := by
  rw [← hv]
  have := h.block b (World.block_lt_of_cell? w _ hv) hb
  simp only [World.cell?, this]
theorem Exc.frozen {g : Nat} {w w' : World} (h : Exc g w w') {b : Nat} (o : Nat) (hl : b < w.heap.size) (hb : b ≠ g) : w'.frozen? ⟨b, o, none⟩ = w.frozen? ⟨b, o, none⟩ := by
  have := h.block b hl hb
  simp only [World.frozen?, this]
theorem Exc.rd {g : Nat} {w w' : World} (h : Exc g w w') {b o : Nat} {xs : List Value} (hr : Rd w (some ⟨b, o, none⟩) xs) (hb : b ≠ g) : Rd w' (some ⟨b, o, none⟩) xs := fun j u hj => by
  obtain ⟨b', o', ha, hc⟩ := hr j u hj
  simp only [Option.some.injEq, Addr.mk.injEq, and_true] at ha
  obtain ⟨rfl, rfl⟩ := ha
  exact ⟨b, o, rfl, h.cell hc hb⟩
theorem Exc.wr {g : Nat} {w w' : World} (h : Exc g w w') {b : Nat} {xs : List Value} (hr : Wr w b xs) (hb : b ≠ g) : Wr w' b xs :=
  ⟨Nat.lt_of_lt_of_le hr.1 h.size, fun j u hj => h.cell (hr.2.1 j u hj) hb, fun j hj => by rw [h.frozen j hr.1 hb]; exact hr.2.2 j hj⟩
theorem Exc.below {g B : Nat} {w w' : World} (h : Exc g w w') (hB : B ≤ g) (hs : B ≤ w.heap.size) : Below B w w' := ⟨h.os, h.tape, h.output, h.size, fun k hk => h.block k (by omega) (by omega)⟩
/-- A row in a block from lo on and below hi; or none. -/
def InR (lo hi : Nat) (w : World) (a : Option Addr) (xs : List Value) : Prop := xs = [] ∨ ∃ g, a = some ⟨g, 0, none⟩ ∧ lo ≤ g ∧ g < hi ∧ Wr w g xs
theorem InR.rd {lo hi : Nat} {w : World} {a : Option Addr} {xs : List Value} (h : InR lo hi w a xs) : Rd w a xs := by
  rcases h with rfl | ⟨g, rfl, _, _, h⟩
  · exact Rd.nil _ _
  · exact h.rd
theorem InR.ext {lo hi : Nat} {w w' : World} {a : Option Addr} {xs : List Value} (h : InR lo hi w a xs) (k : Ext w w') : InR lo hi w' a xs := by
  rcases h with rfl | ⟨g, rfl, h1, h2, h⟩
  · exact .inl rfl
  · exact .inr ⟨g, rfl, h1, h2, h.ext k⟩
/-- All blocks but those from lo on and below hi are as they were. -/
structure Exb (lo hi : Nat) (w w' : World) : Prop where
  os : w'.os = w.os
  tape : w'.tape = w.tape
  output : w'.output = w.output
  size : w.heap.size ≤ w'.heap.size
  block : ∀ k, k < w.heap.size → (k < lo ∨ hi ≤ k) → w'.heap[k]? = w.heap[k]?
theorem Exb.of_ext {lo hi : Nat} {w w' : World} (h : Ext w w') : Exb lo hi w w' := ⟨h.below.os, h.below.tape, h.below.output, h.size, fun k hk _ => h.below.block k hk⟩
theorem Exb.of_exc {lo hi g : Nat} {w w' : World} (h : Exc g w w') (h1 : lo ≤ g) (h2 : g < hi) : Exb lo hi w w' := ⟨h.os, h.tape, h.output, h.size, fun k hk ho => h.block k hk (by omega)⟩
theorem Exb.pre {lo hi : Nat} {w w' w'' : World} (h : Ext w w') (k : Exb lo hi w' w'') : Exb lo hi w w'' :=
  ⟨k.os.trans h.below.os, k.tape.trans h.below.tape, k.output.trans h.below.output, Nat.le_trans h.size k.size, fun q hq ho => (k.block q (Nat.lt_of_lt_of_le hq h.size) ho).trans (h.below.block q hq)⟩
theorem Exb.cell {lo hi : Nat} {w w' : World} (h : Exb lo hi w w') {b o : Nat} {v : Value} (hv : w.cell? ⟨b, o, none⟩ = some v) (hb : b < lo ∨ hi ≤ b) : w'.cell? ⟨b, o, none⟩ = some v := by
  rw [← hv]
  have := h.block b (World.block_lt_of_cell? w _ hv) hb
  simp only [World.cell?, this]
theorem Exb.frozen {lo hi : Nat} {w w' : World} (h : Exb lo hi w w') {b : Nat} (o : Nat) (hl : b < w.heap.size) (hb : b < lo ∨ hi ≤ b) : w'.frozen? ⟨b, o, none⟩ = w.frozen? ⟨b, o, none⟩ := by
  have := h.block b hl hb
  simp only [World.frozen?, this]
theorem Exb.inR {lo hi l2 h2 : Nat} {w w' : World} {a : Option Addr} {xs : List Value} (h : Exb lo hi w w') (r : InR l2 h2 w a xs) (hb : h2 ≤ lo ∨ hi ≤ l2) : InR l2 h2 w' a xs := by
  rcases r with rfl | ⟨g, rfl, h1, h3, r⟩
  · exact .inl rfl
  · refine .inr ⟨g, rfl, h1, h3, Nat.lt_of_lt_of_le r.1 h.size, fun j u hj => h.cell (r.2.1 j u hj) (by omega), fun j hj => by rw [h.frozen j r.1 (by omega)]; exact r.2.2 j hj⟩
theorem Exb.ext0 {lo hi : Nat} {w w1 w2 : World} (k : Ext w w1) (h : Exb lo hi w1 w2) (hb : w.heap.size ≤ lo) : Ext w w2 :=
  ⟨h.os.trans k.below.os, h.tape.trans k.below.tape, h.output.trans k.below.output, Nat.le_trans k.size h.size, fun q hq => (h.block q (Nat.lt_of_lt_of_le hq k.size) (by omega)).trans (k.below.block q hq)⟩

theorem Own.inR {w : World} {B : Nat} {e : TypeId} {size : Nat} {a : Option Addr} {n c : Nat} {xs : List Value} (h : Own w B e size a n c xs) : InR B w.heap.size w a xs := by
  by_cases hn : 0 < n
  · obtain ⟨g, rfl, h1, h2, h3, h4⟩ := h.form hn
    refine .inr ⟨g, rfl, h1, h2, h2, fun j u hj => ?_, fun j _ => h3 j⟩
    obtain ⟨b, o, hb, hc⟩ := h.rd j u hj
    simp only [Option.some.injEq, Addr.mk.injEq, and_true] at hb
    obtain ⟨rfl, rfl⟩ := hb
    simpa using hc
  · refine .inl (List.eq_nil_of_length_eq_zero ?_)
    rw [h.length, show n = 0 by omega]
    simp
theorem InR.up {lo hi hi' : Nat} {w : World} {a : Option Addr} {xs : List Value} (h : InR lo hi w a xs) (k : hi ≤ hi') : InR lo hi' w a xs := by
  rcases h with rfl | ⟨g, rfl, h1, h2, h⟩
  · exact .inl rfl
  · exact .inr ⟨g, rfl, h1, by omega, h⟩
theorem InR.down {lo lo' hi : Nat} {w : World} {a : Option Addr} {xs : List Value} (h : InR lo hi w a xs) (k : lo' ≤ lo) : InR lo' hi w a xs := by
  rcases h with rfl | ⟨g, rfl, h1, h2, h⟩
  · exact .inl rfl
  · exact .inr ⟨g, rfl, by omega, h2, h⟩
theorem set_map_range2 (N k : Nat) (f z : Nat → Value) (hk : k < N) : ((List.range N).map fun j => if j < k then f j else z j).set k (f k) = (List.range N).map fun j => if j < k + 1 then f j else z j := by
  apply List.ext_getElem
  · simp
  · intro j h1 h2
    rw [List.getElem_set]
    simp only [List.getElem_map, List.getElem_range]
    by_cases h : k = j
    · subst h; simp
    · rw [if_neg h]
      by_cases h' : j < k
      · rw [if_pos h', if_pos (by omega)]
      · rw [if_neg h', if_neg (by omega)]
end Go.Proofs.YtlnccdbmchjhlaaDoor
end
