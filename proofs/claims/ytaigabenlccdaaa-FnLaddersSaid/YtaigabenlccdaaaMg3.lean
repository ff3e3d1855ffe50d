/- Several texts in one: ShelfW, Bld, Ch03b. Conditions: see each. -/
import Derived.Shelf.Strings.BuilderK
import Derived.Test.YtaigabenlccdaaaProg
import Derived.Test.YtaigabenlccdaaaBase
import Derived.Test.YtaigabenlccdaaaPile
import Derived.Test.YtaigabenlccdaaaCh11a
section
namespace Go.Proofs
open Go.Shelf
end Go.Proofs
end
section
namespace Go.Proofs.Ytaigabenlccdaaa
set_option linter.unusedVariables false
set_option linter.unusedSimpArgs false
open Go Go.RowKit
theorem bldr_below {T e : TypeId} {B b : Nat} {bs : List Value} {w w' : World} (h : Lib.IsBuilderF T e B b bs w) (hx : Ext w w') : Lib.IsBuilderF T e B b bs w' := by
  have k : ∀ p, Lib.BuilderAtF T e B b p bs w → Lib.BuilderAtF T e B b p bs w' := by
    intro p hp
    have hlt := hp.lt
    obtain ⟨h1, v, h2, h3, h4⟩ := hp
    refine ⟨h1, v, by rw [hx.below.block b hlt]; exact h2, ?_, h4⟩
    obtain ⟨g1, g2⟩ := h3
    refine ⟨g1, ?_⟩
    rcases g2 with g2 | ⟨g, cap, cur, fr, hv, hg, hh, r⟩
    · exact .inl g2
    · exact .inr ⟨g, cap, cur, fr, hv, hg, by rw [hx.below.block g (Array.getElem?_eq_some_iff.1 hh).1]; exact hh, r⟩
  rcases h with h | h
  · exact .inl (k _ h)
  · exact .inr (k _ h)
end Go.Proofs.Ytaigabenlccdaaa
end
section
namespace Go.Proofs.Ytaigabenlccdaaa
set_option linter.unusedVariables false
set_option linter.unusedSimpArgs false
open Go Go.RowKit
def letP (x : UInt8) : Prop := (97 ≤ x.toNat ∧ x.toNat ≤ 122) ∨ (65 ≤ x.toNat ∧ x.toNat ≤ 90)
def tilesL (l : List UInt8) : List UInt8 := l.map tileOf
def pileS (s : ByteArray) : ByteArray := ⟨(sortU (tilesL s.data.toList)).toArray⟩
def placeI (c : Int) : Int := if c = 63 then 0 else if 97 ≤ c ∧ c ≤ 122 then c - 96 else -1
def cntA (f : Nat → Nat) : Array Value := ((List.range 27).map fun k => Value.int .i64 (f k : Nat)).toArray
theorem cntA_size (f : Nat → Nat) : (cntA f).size = 27 := by simp [cntA]
theorem cntA_get (f : Nat → Nat) (k : Nat) (h : k < 27) : (cntA f)[k]? = some (.int .i64 (f k : Nat)) := by
  simp [cntA, h]
theorem cntA_set (f : Nat → Nat) (k n : Nat) (h : k < 27) : (cntA f).setIfInBounds k (.int .i64 (n : Nat)) = cntA fun j => if j = k then n else f j := by
  apply Array.ext
  · simp [cntA]
  · intro i h1 h2
    rw [Array.getElem_setIfInBounds (by simpa [cntA] using h1)]
    by_cases e : k = i
    · subst e; simp [cntA]
    · rw [if_neg e]; simp [cntA, Ne.symm e]
theorem cntA_congr {f f' : Nat → Nat} (h : ∀ k, k < 27 → f k = f' k) : cntA f = cntA f' := by
  unfold cntA
  congr 1
  apply List.map_congr_left
  intro k hk
  rw [h k (List.mem_range.1 hk)]
theorem place_any (c : Int) (w : World) (h0 : 0 ≤ c) (h1 : c < 256) : Calls Try.prog 66 #[.int .u8 c] w (Same (.int .i64 (placeI c)) w) := by
  have H : Hid (placeI c = if c = 63 then 0 else if 97 ≤ c ∧ c ≤ 122 then c - 96 else -1) := hid rfl
  by_cases h : c = 63
  · subst h
    go_enter Try.func66, Try.ntmps66
    go_wp2_with fail
    go_returns
    exact ⟨ret_int (by decide), rfl⟩
  · have hq : (c == 63) = false := by simpa using h
    have HQ := hid h
    clear h
    by_cases h2 : 97 ≤ c ∧ c ≤ 122
    · obtain ⟨a1, a2⟩ := h2
      have w8 : IntKind.u8.wrap (c - 97) = c - 97 := by simp [IntKind.wrap, IntKind.bits, IntKind.signed]; omega
      have hs : smallB c = true := by simp [smallB]; omega
      have HA := hid (small_any c)
      rw [hs] at HA
      clear hs
      go_enter Try.func66, Try.ntmps66
      go_wp2_with fail
      refine (HA.out _).mono ?_
      rintro e w' ⟨rfl, rfl⟩
      go_wp2_with fail
      go_returns
      exact ⟨ret_int (by rw [H.out, if_neg HQ.out, if_pos ⟨a1, a2⟩]; omega), rfl⟩
    · have hs : smallB c = false := by simp [smallB]; omega
      have HA := hid (small_any c)
      rw [hs] at HA
      have H2 := hid h2
      clear hs h2
      go_enter Try.func66, Try.ntmps66
      go_wp2_with fail
      refine (HA.out _).mono ?_
      rintro e w' ⟨rfl, rfl⟩
      go_wp2_with fail
      go_returns
      exact ⟨ret_int (by rw [H.out, if_neg HQ.out, if_neg H2.out]), rfl⟩
theorem run_index_cnt (A : Array Value) (k : Nat) (v : Value) (hA : A[k]? = some v) (hk : k < 27) (w : World) : (Instr.index 68 (.agg A) (.int .i64 (k : Int))).run Try.prog w = .ok v w := by
  unfold Instr.index
  simp only [asIntOf, Sem.run_bind, Sem.run_pure, Result.andThen_ok]
  go_simp
theorem pileN_mono (f : Nat → Nat) (m : Nat) (h : m ≤ 27) : (pileN f m).length ≤ (pileN f 27).length := by
  have : ∀ d, (pileN f m).length ≤ (pileN f (m + d)).length := by
    intro d
    induction d with
    | zero => exact Nat.le_refl _
    | succ d ih =>
      rw [← Nat.add_assoc, pileN_succ, List.length_append]
      omega
  have := this (27 - m)
  rwa [show m + (27 - m) = 27 by omega] at this
end Go.Proofs.Ytaigabenlccdaaa
end
