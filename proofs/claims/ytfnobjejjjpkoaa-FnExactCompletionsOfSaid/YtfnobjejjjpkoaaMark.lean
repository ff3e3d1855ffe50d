/- Marks in rows of the law's own: what stays apart. -/
import Derived.Test.YtfnobjejjjpkoaaLex
namespace Go.Proofs.Ytfnobjejjjpkoaa
set_option linter.unusedVariables false
set_option linter.unusedSimpArgs false
open Go Go.RowKit
theorem OwnR.inR {w : World} {B : Nat} {a : Option Addr} {xs : List Value} (h : OwnR w B a xs) : InR B w.heap.size w a xs := by
  rcases h with rfl | ⟨g, rfl, hb, h⟩
  · exact .inl rfl
  · exact .inr ⟨g, rfl, hb, h.1, h⟩
/-- A lexicon with these words. -/
def LexIs (l : List ByteArray) (v : Value) (w : World) : Prop := ∃ a c, v = lexV a l.length c ∧ Rd w a (strsV l)
theorem LexIs.ext {l : List ByteArray} {v : Value} {w w' : World} (h : LexIs l v w) (k : Ext w w') : LexIs l v w' := by
  obtain ⟨a, c, h1, h2⟩ := h
  exact ⟨a, c, h1, h2.ext k⟩
theorem flow_lex {P : Program} {f : FuncId} {args : Array Value} {w : World} {l : List ByteArray} (h : Calls P f args w (RetX l w)) : flowUpon P Ext w (fun v w' => LexIs l v w') (.ok (.enter f args) w) :=
  ⟨Ext.refl w, h.mono fun _ _ ⟨a, c, he, ho, hx⟩ => ⟨_, he, hx, a, c, rfl, ho.rd⟩⟩
end Go.Proofs.Ytfnobjejjjpkoaa
