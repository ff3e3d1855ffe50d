/- A lexicon stored into a block that is laid in the same drawn region. No condition. -/
import Derived.Test.YtflpiebiacainaaFlowT
import Derived.Test.YtflpiebiacainaaMark
import Derived.Test.YtflpiebiacainaaCh05f
namespace Go.Proofs.Ytflpiebiacainaa
set_option linter.unusedVariables false
set_option linter.unusedSimpArgs false
open Go Go.RowKit
def LeA (L : List ByteArray) (B : Nat) (v : Value) (w : World) : Prop := ∃ a c, v = lexV a L.length c ∧ InR B w.heap.size w a (strsV L)
theorem LeA.ext {L : List ByteArray} {B : Nat} {v : Value} {w w' : World} (h : LeA L B v w) (x : Ext w w') : LeA L B v w' := by
  obtain ⟨a, c, e, i⟩ := h
  exact ⟨a, c, e, (i.up x.size).ext x⟩
def TuA (L : List ByteArray) (k : Int) (B : Nat) (v : Value) (w : World) : Prop := ∃ a c, v = .tuple #[lexV a L.length c, .int .i64 k] ∧ InR B w.heap.size w a (strsV L)
theorem TuA.ext {L : List ByteArray} {k : Int} {B : Nat} {v : Value} {w w' : World} (h : TuA L k B v w) (x : Ext w w') : TuA L k B v w' := by
  obtain ⟨a, c, e, i⟩ := h
  exact ⟨a, c, e, (i.up x.size).ext x⟩
theorem flow_ra {P : Program} {f : FuncId} {args : Array Value} {w : World} {L : List ByteArray} {k : Int} {B : Nat} (h : Calls P f args w (RetA L k w)) (hB : B ≤ w.heap.size) : flowUpon P Ext w (fun v w' => TuA L k B v w') (.ok (.enter f args) w) := by
  refine ⟨Ext.refl w, h.mono ?_⟩
  rintro e w' ⟨a, c, he, i, x⟩
  exact ⟨_, he, x, a, c, rfl, i.down hB⟩
def IsSl (s : Value) : Prop := ∃ a n c, s = .slice a n c
def SlotX (B : Nat) (v : Value) (w : World) : Prop := ∃ g s, v = .pointer (some ⟨g, 0, none⟩) ∧ B ≤ g ∧ LkT w g 26 s ∧ IsSl s
def PutX (B : Nat) (L : List ByteArray) (u : Value) (w w' : World) : Prop := ∃ g s a c, u = .pointer (some ⟨g, 0, none⟩) ∧ B ≤ g ∧ LkT w g 26 s ∧ IsSl s ∧ w' = w.setCell ⟨g, 0, none⟩ (.slice a L.length c) ∧ InR B w.heap.size w a (strsV L)
theorem slotX_new (B : Nat) (w : World) (h : B ≤ w.heap.size) : SlotX B (.pointer (some ⟨w.heap.size, 0, none⟩)) (w.alloc (.cells #[.slice none 0 0] 26)) := ⟨_, _, rfl, h, LkT.new _ _ _, _, _, _, rfl⟩
theorem SlotX.ext {B : Nat} {v : Value} {w w' : World} (h : SlotX B v w) (k : Ext w w') : SlotX B v w' := by
  obtain ⟨g, s, h1, h2, h3, h4⟩ := h
  exact ⟨g, s, h1, h2, h3.ext k, h4⟩
theorem SlotX.put {B : Nat} {v u : Value} {L : List ByteArray} {w w' : World} (h : SlotX B v w) (k : PutX B L u w w') : SlotX B v w' := by
  obtain ⟨g, s, h1, h2, h3, h4⟩ := h
  obtain ⟨q, z, a, c, k1, k2, k3, k4, rfl, k6⟩ := k
  by_cases e : g = q
  · subst e
    exact ⟨g, _, h1, h2, h3.set _, _, _, _, rfl⟩
  · exact ⟨g, s, h1, h2, h3.off e _ _, h4⟩
theorem PutX.size {B : Nat} {u : Value} {L : List ByteArray} {w w' : World} (k : PutX B L u w w') : w'.heap.size = w.heap.size := by
  obtain ⟨q, z, a, c, k1, k2, k3, k4, rfl, k6⟩ := k
  simp [World.setCell]
theorem PutX.toExt {B : Nat} {u : Value} {L : List ByteArray} {w0 w w' : World} (k : PutX B L u w w') (h : Ext w0 w) (hB : w0.heap.size = B) : Ext w0 w' := by
  obtain ⟨q, z, a, c, k1, k2, k3, k4, rfl, k6⟩ := k
  exact h.setCell (by show w0.heap.size ≤ q; omega) _
theorem Rd.putX {B : Nat} {u : Value} {L l : List ByteArray} {w w' : World} {a : Option Addr} (h : Rd w a (strsV l)) (k : PutX B L u w w') : Rd w' a (strsV l) := by
  obtain ⟨q, z, a', c, k1, k2, k3, ⟨x1, x2, x3, k4⟩, rfl, k6⟩ := k
  intro j v hj
  obtain ⟨b, o, rfl, hc⟩ := h j v hj
  refine ⟨b, o, rfl, ?_⟩
  rw [World.cell?_setCell_other _ _ _ _ ?_]
  · exact hc
  · intro e
    have q0 := k3.cell
    rw [e, hc, k4] at q0
    cases q0
    simp only [strsV, List.getElem?_map, Option.map_eq_some_iff] at hj
    obtain ⟨_, _, e'⟩ := hj
    cases e'
theorem InR.putX {B lo hi : Nat} {u : Value} {L l : List ByteArray} {w w' : World} {a : Option Addr} (h : InR lo hi w a (strsV l)) (k : PutX B L u w w') : InR lo hi w' a (strsV l) := by
  rcases h with h | ⟨g, e, h1, h2, h⟩
  · exact .inl h
  · obtain ⟨q, z, a', c, k1, k2, k3, ⟨x1, x2, x3, k4⟩, rfl, k6⟩ := k
    cases l with
    | nil => exact .inl rfl
    | cons x l =>
      refine .inr ⟨g, e, h1, h2, h.other ?_⟩
      rintro rfl
      have q := h.2.1 0 (.string x) rfl
      rw [k3.cell, k4] at q
      cases q
theorem LeA.putX {B : Nat} {v u : Value} {L l : List ByteArray} {w w' : World} (h : LeA l B v w) (k : PutX B L u w w') : LeA l B v w' := by
  obtain ⟨a, c, e, i⟩ := h
  exact ⟨a, c, e, by rw [k.size]; exact i.putX k⟩
theorem TuA.putX {B : Nat} {v u : Value} {L l : List ByteArray} {n : Int} {w w' : World} (h : TuA l n B v w) (k : PutX B L u w w') : TuA l n B v w' := by
  obtain ⟨a, c, e, i⟩ := h
  exact ⟨a, c, e, by rw [k.size]; exact i.putX k⟩
theorem invAt_storeX {o : Oper} {ρ : Operand → Value} {w : World} {u : Value} {x y : Operand} {B : Nat} {L : List ByteArray} (ho : o.op = Op.store 26 x y) (hs : SlotX B (ρ x) w) (hy : LeA L B (ρ y) w) (hu : ρ x = u) :
    invAt Try.prog o ρ w (fun _ w' => PutX B L u w w') := by
  obtain ⟨g, s, e1, e2, e3, e4⟩ := hs
  obtain ⟨a, c, e5, e6⟩ := hy
  have hp : PutX B L (ρ x) w (w.setCell ⟨g, 0, none⟩ (.slice a L.length c)) := ⟨g, s, a, c, e1, e2, e3, e4, rfl, e6⟩
  rw [hu] at hp
  have g0 := e3.cell
  have gf := e3.free 0
  clear e3 e6
  unfold invAt
  unfold execOp
  simp only [ho, e1, e5]
  go_simp
  exact hp
theorem LexIs.putX {B : Nat} {v u : Value} {L l : List ByteArray} {w w' : World} (h : LexIs l v w) (k : PutX B L u w w') : LexIs l v w' := by
  obtain ⟨a, c, h1, h2⟩ := h
  exact ⟨a, c, h1, h2.putX k⟩
/-- What stands behind the region. -/
theorem PutX.box {B : Nat} {u : Value} {L : List ByteArray} {x y w : World} (k : PutX B L u x y) (h : Ext y w) : ∃ g a c, u = .pointer (some ⟨g, 0, none⟩) ∧ B ≤ g ∧ LkT w g 26 (.slice a L.length c) ∧ InR B w.heap.size w a (strsV L) := by
  have hs := k.size
  have k' := k
  obtain ⟨q, z, a, c, k1, k2, k3, k4, k5, k6⟩ := k
  refine ⟨q, a, c, k1, k2, ?_, (((k6.putX k').up (by rw [← hs]; exact h.size))).ext h⟩
  rw [k5] at h
  exact (k3.set _).ext h
end Go.Proofs.Ytflpiebiacainaa
