/- Lists of whole numbers in memory: what the laws' own functions on them compute. Conditions: at most 2^20 elements. -/
import Derived.Test.YtaigabenlccdaaaStrs
namespace Go.Proofs.Ytaigabenlccdaaa
set_option linter.unusedVariables false
set_option linter.unusedSimpArgs false
open Go Go.RowKit
def intsV (l : List Int) : List Value := l.map fun z => .int .i64 z
theorem intsV_length (l : List Int) : (intsV l).length = l.length := by simp [intsV]
theorem intsV_get (l : List Int) (k : Nat) (h : k < l.length) : (intsV l)[k]? = some (.int .i64 l[k]) := by simp [intsV, h]
theorem Rd.int {w : World} {a : Option Addr} {l : List Int} (h : Rd w a (intsV l)) (hn : 0 < l.length) : ∃ b o, a = some ⟨b, o, none⟩ ∧ ∀ k (hk : k < l.length), w.cell? ⟨b, o + k, none⟩ = some (.int .i64 l[k]) := by
  obtain ⟨b, o, ha, hc⟩ := h.at (by rw [intsV_length]; exact hn)
  exact ⟨b, o, ha, fun k hk => hc k _ (intsV_get l k hk)⟩
theorem El_int64 : El Try.prog 48 2 (.int .i64 0) 1 8 := by
  obtain ⟨i, h1, h2, h3, h4⟩ := info_parts (show (Try.prog.info? 2).map (fun i => (i.zero, i.size, i.bytes)) = some (some (.int .i64 0), 1, 8) by kernel_rfl)
  exact ⟨Try.underlying48, ⟨i, h1, h2, h3, h4⟩, rfl, by decide⟩
def szN (L : Int) (l : List Int) : Int := if L < l.length then -1 else L - l.length
end Go.Proofs.Ytaigabenlccdaaa
