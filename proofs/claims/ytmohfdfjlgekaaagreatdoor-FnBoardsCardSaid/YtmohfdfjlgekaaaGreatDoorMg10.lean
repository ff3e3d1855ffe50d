/- Several texts in one: Row, LwE, StoreB. Conditions: see each. -/
import Derived.Test.YtmohfdfjlgekaaaGreatDoorBase
import Derived.ProofKit
import Derived.OpenShut
import Derived.ShutString
import Derived.ChangeOld
import Derived.Below
import Derived.Lib.SmallJoins
import Derived.Test.YtmohfdfjlgekaaaGreatDoorMg7
import Derived.Test.YtmohfdfjlgekaaaGreatDoorFlowI
import Derived.Test.YtmohfdfjlgekaaaGreatDoorMarkB
section
namespace Go.Proofs.YtmohfdfjlgekaaaGreatDoor
open Go Go.ChangeShapes Go.WideShapes Go.ChangeAt Go.RowKit
set_option linter.unusedVariables false
theorem ownRow : ownKnob Tryz.prog.godebug = none := by kernel_rfl
theorem laidRow : laidOutB Tryz.prog = true := by kernel_rfl
/-- An integer that came in fits its kind. -/
theorem wf_i64 {a : Int} (h : (Lit.int .i64 a).wf = true) : -9223372036854775808 ≤ a ∧ a ≤ 9223372036854775807 := by
  simp only [Lit.wf, Bool.and_eq_true, decide_eq_true_eq] at h
  exact h
theorem wf_u8 {a : Int} (h : (Lit.int .u8 a).wf = true) : 0 ≤ a ∧ a < 256 := by
  simp only [Lit.wf, Bool.and_eq_true, decide_eq_true_eq] at h
  obtain ⟨h1, h2⟩ := h
  have h3 : a ≤ 255 := h2
  exact ⟨h1, by omega⟩
end Go.Proofs.YtmohfdfjlgekaaaGreatDoor
end
section
namespace Go.Proofs.YtmohfdfjlgekaaaGreatDoor
open Go Go.RowKit
theorem szB_neg {L : Int} {p c : ByteArray} (h : ¬ szB L p c < 0) (hL : L ≤ 1048576) : p.size ≤ 1048576 ∧ c.size ≤ 1048576 ∧ 0 ≤ szB L p c ∧ szB L p c ≤ 1048576 := by
  unfold szB at *
  split at h
  · omega
  · split at h
    · omega
    · rw [if_neg ‹_›, if_neg ‹_›]; omega
theorem szP_neg {L : Int} {s : ByteArray} (h : ¬ szP L s < 0) (hL : L ≤ 1048576) : s.size ≤ 1048576 ∧ 0 ≤ szP L s ∧ szP L s ≤ 1048576 := by
  unfold szP at *
  split at h
  · omega
  · rw [if_neg ‹_›]; omega
end Go.Proofs.YtmohfdfjlgekaaaGreatDoor
end
section
namespace Go.Proofs.YtmohfdfjlgekaaaGreatDoor
set_option linter.unusedVariables false
set_option linter.unusedSimpArgs false
open Go Go.RowKit
/-- What lies below B is as it was. -/
def Bel (B : Nat) (w w' : World) : Prop := Below B w w'
theorem Bel.cell {B : Nat} {w w' : World} (h : Bel B w w') {b o : Nat} {v : Value} (hv : w.cell? ⟨b, o, none⟩ = some v) (hb : b < B) : w'.cell? ⟨b, o, none⟩ = some v := by
  rw [Below.cell h (p := ⟨b, o, none⟩) hb]; exact hv
theorem Bel.toExt {B : Nat} {w w' : World} (k : Bel B w w') (h : w.heap.size = B) : Ext w w' := by
  unfold Ext; rw [h]; exact k
/-- A place for a board, laid since. -/
def SlotB (B : Nat) (v : Value) (w : World) : Prop := ∃ g x y z, v = .pointer (some ⟨g, 0, none⟩) ∧ B ≤ g ∧ g < w.heap.size ∧ w.cell? ⟨g, 0, none⟩ = some (.int .i64 x) ∧ w.cell? ⟨g, 1, none⟩ = some (.string y) ∧ w.cell? ⟨g, 2, none⟩ = some (.string z) ∧ ∀ j, w.frozen? ⟨g, j, none⟩ = false
/-- The store: the board stands at the place u; all else is as it was. -/
def PutB (B : Nat) (n : Int) (p c : ByteArray) (u : Value) (w w' : World) : Prop := ∃ g, u = .pointer (some ⟨g, 0, none⟩) ∧ B ≤ g ∧ g < w.heap.size ∧ Exc g w w' ∧ w'.cell? ⟨g, 0, none⟩ = some (.int .i64 n) ∧ w'.cell? ⟨g, 1, none⟩ = some (.string p) ∧ w'.cell? ⟨g, 2, none⟩ = some (.string c) ∧ ∀ j, w'.frozen? ⟨g, j, none⟩ = false
theorem SlotB.ext {B : Nat} {v : Value} {w w' : World} (h : SlotB B v w) (k : Ext w w') : SlotB B v w' := by
  obtain ⟨g, x, y, z, h1, h2, h3, h4, h5, h6, h7⟩ := h
  exact ⟨g, x, y, z, h1, h2, Nat.lt_of_lt_of_le h3 k.size, k.cell h4, k.cell h5, k.cell h6, fun j => by rw [k.cells.2 _ _ h3]; exact h7 j⟩
theorem SlotB.put {B : Nat} {v u : Value} {n : Int} {p c : ByteArray} {w w' : World} (h : SlotB B v w) (k : PutB B n p c u w w') : SlotB B v w' := by
  obtain ⟨g, x, y, z, h1, h2, h3, h4, h5, h6, h7⟩ := h
  obtain ⟨q, k1, k2, k3, k4, k5, k6, k7, k8⟩ := k
  by_cases e : g = q
  · subst e
    exact ⟨g, n, p, c, h1, h2, Nat.lt_of_lt_of_le h3 k4.size, k5, k6, k7, k8⟩
  · exact ⟨g, x, y, z, h1, h2, Nat.lt_of_lt_of_le h3 k4.size, k4.cell h4 e, k4.cell h5 e, k4.cell h6 e, fun j => by rw [k4.frozen j h3 e]; exact h7 j⟩
theorem PutB.bel {B : Nat} {u : Value} {n : Int} {p c : ByteArray} {w0 w w' w'' : World} (hB : w0.heap.size = B) (h : Ext w0 w) (k : PutB B n p c u w w') (h2 : Ext w' w'') : Bel B w0 w'' := by
  obtain ⟨q, k1, k2, k3, k4, k5, k6, k7, k8⟩ := k
  have := k4.size
  exact Below.trans (Below.trans (Below.mono h (by omega)) (k4.below k2 (by have := h.size; omega))) (Below.mono h2 (by have := h.size; omega))
theorem slotB_new (B : Nat) (w : World) (t : TypeId) (h : B ≤ w.heap.size) : SlotB B (.pointer (some ⟨w.heap.size, 0, none⟩)) (w.alloc (.cells #[.int .i64 0, .string ⟨#[]⟩, .string ⟨#[]⟩] t)) :=
  ⟨w.heap.size, 0, ⟨#[]⟩, ⟨#[]⟩, rfl, h, by simp, by simp, by simp, by simp, fun j => by simp⟩
theorem putB_of {B g : Nat} {n x : Int} {p c y z : ByteArray} {w : World} (hB : B ≤ g) (hg : g < w.heap.size) (h0 : w.cell? ⟨g, 0, none⟩ = some (.int .i64 x)) (h1 : w.cell? ⟨g, 1, none⟩ = some (.string y)) (h2 : w.cell? ⟨g, 2, none⟩ = some (.string z)) (hf : ∀ j, w.frozen? ⟨g, j, none⟩ = false) :
    PutB B n p c (.pointer (some ⟨g, 0, none⟩)) w (((w.setCell ⟨g, 0, none⟩ (.int .i64 n)).setCell ⟨g, 1, none⟩ (.string p)).setCell ⟨g, 2, none⟩ (.string c)) := by
  refine ⟨g, rfl, hB, hg, (((Exc.refl g w).setCell 0 _).setCell 1 _).setCell 2 _, ?_, ?_, ?_, fun j => by simpa using hf j⟩
  · rw [World.cell?_setCell_other _ _ _ _ (by simp), World.cell?_setCell_other _ _ _ _ (by simp)]
    exact World.cell?_setCell_same _ _ _ h0
  · rw [World.cell?_setCell_other _ _ _ _ (by simp)]
    exact World.cell?_setCell_same _ _ _ (u := .string y) (by rw [World.cell?_setCell_other _ _ _ _ (by simp)]; exact h1)
  · exact World.cell?_setCell_same _ _ _ (u := .string z) (by rw [World.cell?_setCell_other _ _ _ _ (by simp), World.cell?_setCell_other _ _ _ _ (by simp)]; exact h2)
theorem invAt_storeB {o : Oper} {ρ : Operand → Value} {w : World} {u : Value} {x y : Operand} {B : Nat} {n : Int} {p c : ByteArray} (ho : o.op = Op.store 25 x y) (hs : SlotB B (ρ x) w) (hy : ρ y = .agg #[.int .i64 n, .string p, .string c]) (hu : ρ x = u) :
    invAt Tryz.prog o ρ w (fun _ w' => PutB B n p c u w w') := by
  obtain ⟨g, a, b, d, h1, h2, h3, h4, h5, h6, h7⟩ := hs
  have hp := putB_of (n := n) (p := p) (c := c) h2 h3 h4 h5 h6 h7
  rw [← h1, hu] at hp
  have f0 := h7 0
  have f1 := h7 1
  have f2 := h7 2
  clear h7
  unfold invAt
  unfold execOp
  simp only [ho, h1, hy]
  go_simp
  exact hp
end Go.Proofs.YtmohfdfjlgekaaaGreatDoor
end
