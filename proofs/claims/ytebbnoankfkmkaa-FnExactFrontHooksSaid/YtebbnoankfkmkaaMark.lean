/- Marks in rows of the law's own: what stays apart. -/
import Derived.Test.YtebbnoankfkmkaaLex
namespace Go.Proofs.Ytebbnoankfkmkaa
set_option linter.unusedVariables false
set_option linter.unusedSimpArgs false
open Go Go.RowKit
/-- A row in a block from lo on and below hi; or none. -/
def InR (lo hi : Nat) (w : World) (a : Option Addr) (xs : List Value) : Prop := xs = [] ∨ ∃ g, a = some ⟨g, 0, none⟩ ∧ lo ≤ g ∧ g < hi ∧ Wr w g xs
theorem OwnR.inR {w : World} {B : Nat} {a : Option Addr} {xs : List Value} (h : OwnR w B a xs) : InR B w.heap.size w a xs := by
  rcases h with rfl | ⟨g, rfl, hb, h⟩
  · exact .inl rfl
  · exact .inr ⟨g, rfl, hb, h.1, h⟩
theorem InR.rd {lo hi : Nat} {w : World} {a : Option Addr} {xs : List Value} (h : InR lo hi w a xs) : Rd w a xs := by
  rcases h with rfl | ⟨g, rfl, _, _, h⟩
  · exact Rd.nil _ _
  · exact h.rd
theorem InR.ext {lo hi : Nat} {w w' : World} {a : Option Addr} {xs : List Value} (h : InR lo hi w a xs) (k : Ext w w') : InR lo hi w' a xs := by
  rcases h with rfl | ⟨g, rfl, h1, h2, h⟩
  · exact .inl rfl
  · exact .inr ⟨g, rfl, h1, h2, h.ext k⟩
/-- All blocks but those from lo on and below hi are as they were. -/
structure Exb (lo hi : Nat) (w w' : World) : Prop where
  os : w'.os = w.os
  tape : w'.tape = w.tape
  output : w'.output = w.output
  size : w.heap.size ≤ w'.heap.size
  block : ∀ k, k < w.heap.size → (k < lo ∨ hi ≤ k) → w'.heap[k]? = w.heap[k]?
theorem Exb.of_ext {lo hi : Nat} {w w' : World} (h : Ext w w') : Exb lo hi w w' := ⟨h.below.os, h.below.tape, h.below.output, h.size, fun k hk _ => h.below.block k hk⟩
theorem Exb.of_exc {lo hi g : Nat} {w w' : World} (h : Exc g w w') (h1 : lo ≤ g) (h2 : g < hi) : Exb lo hi w w' := ⟨h.os, h.tape, h.output, h.size, fun k hk ho => h.block k hk (by omega)⟩
theorem Exb.pre {lo hi : Nat} {w w' w'' : World} (h : Ext w w') (k : Exb lo hi w' w'') : Exb lo hi w w'' :=
  ⟨k.os.trans h.below.os, k.tape.trans h.below.tape, k.output.trans h.below.output, Nat.le_trans h.size k.size, fun q hq ho => (k.block q (Nat.lt_of_lt_of_le hq h.size) ho).trans (h.below.block q hq)⟩
theorem Exb.cell {lo hi : Nat} {w w' : World} (h : Exb lo hi w w') {b o : Nat} {v : Value} (hv : w.cell? ⟨b, o, none⟩ = some v) (hb : b < lo ∨ hi ≤ b) : w'.cell? ⟨b, o, none⟩ = some v := by
  rw [← hv]
  have := h.block b (World.block_lt_of_cell? w _ hv) hb
  simp only [World.cell?, this]
theorem Exb.frozen {lo hi : Nat} {w w' : World} (h : Exb lo hi w w') {b : Nat} (o : Nat) (hl : b < w.heap.size) (hb : b < lo ∨ hi ≤ b) : w'.frozen? ⟨b, o, none⟩ = w.frozen? ⟨b, o, none⟩ := by
  have := h.block b hl hb
  simp only [World.frozen?, this]
theorem Exb.inR {lo hi l2 h2 : Nat} {w w' : World} {a : Option Addr} {xs : List Value} (h : Exb lo hi w w') (r : InR l2 h2 w a xs) (hb : h2 ≤ lo ∨ hi ≤ l2) : InR l2 h2 w' a xs := by
  rcases r with rfl | ⟨g, rfl, h1, h3, r⟩
  · exact .inl rfl
  · refine .inr ⟨g, rfl, h1, h3, Nat.lt_of_lt_of_le r.1 h.size, fun j u hj => h.cell (r.2.1 j u hj) (by omega), fun j hj => by rw [h.frozen j r.1 (by omega)]; exact r.2.2 j hj⟩
theorem Exb.ext0 {lo hi : Nat} {w w1 w2 : World} (k : Ext w w1) (h : Exb lo hi w1 w2) (hb : w.heap.size ≤ lo) : Ext w w2 :=
  ⟨h.os.trans k.below.os, h.tape.trans k.below.tape, h.output.trans k.below.output, Nat.le_trans k.size h.size, fun q hq => (h.block q (Nat.lt_of_lt_of_le hq k.size) (by omega)).trans (k.below.block q hq)⟩

/-- A lexicon with these words. -/
def LexIs (l : List ByteArray) (v : Value) (w : World) : Prop := ∃ a c, v = lexV a l.length c ∧ Rd w a (strsV l)
theorem LexIs.ext {l : List ByteArray} {v : Value} {w w' : World} (h : LexIs l v w) (k : Ext w w') : LexIs l v w' := by
  obtain ⟨a, c, h1, h2⟩ := h
  exact ⟨a, c, h1, h2.ext k⟩
theorem flow_lex {P : Program} {f : FuncId} {args : Array Value} {w : World} {l : List ByteArray} (h : Calls P f args w (RetX l w)) : flowUpon P Ext w (fun v w' => LexIs l v w') (.ok (.enter f args) w) :=
  ⟨Ext.refl w, h.mono fun _ _ ⟨a, c, he, ho, hx⟩ => ⟨_, he, hx, a, c, rfl, ho.rd⟩⟩
end Go.Proofs.Ytebbnoankfkmkaa
