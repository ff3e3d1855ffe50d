/- Boards: LineOf; SameBoard. Conditions stand at each. -/
import Derived.Test.YtcgedkpbobgkhaaGreatDoorCh11h
namespace Go.Proofs.YtcgedkpbobgkhaaGreatDoor
set_option linter.unusedVariables false
set_option linter.unusedSimpArgs false
open Go Go.RowKit

def lineV (n : Int) (p c : ByteArray) (k : Int) (d : Bool) : Value :=
  if okB n p c then if inB k 0 (n - 1) then .tuple #[.string (rowAt n.toNat (if d then turnS n.toNat c else c) k.toNat), .int .i64 0] else .tuple #[.string noS, .int .i64 2] else .tuple #[.string noS, .int .i64 1]
theorem turnS_size (n : Nat) (s : ByteArray) : (turnS n s).size = n * n := by
  show (turnL n s n).toArray.size = _
  simp [turnL_length]
theorem Own.get {w : World} {B : Nat} {e : TypeId} {size : Nat} {a : Option Addr} {n c : Nat} {xs : List Value} (h : Own w B e size a n c xs) (hn : 0 < n) : ∃ g, a = some ⟨g, 0, none⟩ ∧ ∀ j u, xs[j]? = some u → w.cell? ⟨g, j, none⟩ = some u := by
  obtain ⟨g, rfl, _, _, _, h1⟩ := h.form hn
  refine ⟨g, rfl, fun j u hj => ?_⟩
  obtain ⟨b, o, hb, hc⟩ := h.rd j u hj
  simp only [Option.some.injEq, Addr.mk.injEq, and_true] at hb
  obtain ⟨rfl, rfl⟩ := hb
  simpa using hc

end Go.Proofs.YtcgedkpbobgkhaaGreatDoor
