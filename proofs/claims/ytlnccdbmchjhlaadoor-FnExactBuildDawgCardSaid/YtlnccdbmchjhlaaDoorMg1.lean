/- Several texts in one: Ints, Tile. Conditions: see each. -/
import Derived.Test.YtlnccdbmchjhlaaDoorStrs
section
namespace Go.Proofs.YtlnccdbmchjhlaaDoor
set_option linter.unusedVariables false
set_option linter.unusedSimpArgs false
open Go Go.RowKit
def intsV (l : List Int) : List Value := l.map fun z => .int .i64 z
theorem intsV_length (l : List Int) : (intsV l).length = l.length := by simp [intsV]
theorem intsV_get (l : List Int) (k : Nat) (h : k < l.length) : (intsV l)[k]? = some (.int .i64 l[k]) := by simp [intsV, h]
theorem Rd.int {w : World} {a : Option Addr} {l : List Int} (h : Rd w a (intsV l)) (hn : 0 < l.length) : ∃ b o, a = some ⟨b, o, none⟩ ∧ ∀ k (hk : k < l.length), w.cell? ⟨b, o + k, none⟩ = some (.int .i64 l[k]) := by
  obtain ⟨b, o, ha, hc⟩ := h.at (by rw [intsV_length]; exact hn)
  exact ⟨b, o, ha, fun k hk => hc k _ (intsV_get l k hk)⟩
theorem El_int64 : El Tryd.prog 63 2 (.int .i64 0) 1 8 := by
  obtain ⟨i, h1, h2, h3, h4⟩ := info_parts (show (Tryd.prog.info? 2).map (fun i => (i.zero, i.size, i.bytes)) = some (some (.int .i64 0), 1, 8) by kernel_rfl)
  exact ⟨Tryd.underlying63, ⟨i, h1, h2, h3, h4⟩, rfl, by decide⟩
def szN (L : Int) (l : List Int) : Int := if L < l.length then -1 else L - l.length
set_option maxHeartbeats 400000 in
theorem eqInt64S_self (a b : Option Addr) (c d : Nat) (l : List Int) (w : World) (h : Rd w a (intsV l)) (h' : Rd w b (intsV l)) (hl : l.length ≤ 1048576) :
    Calls Tryd.prog 54 #[.slice a l.length c, .slice b l.length d] w fun e w' => e = .returned (.bool true) ∧ Dr w w' := by
  have HR := hid h
  have HS := hid h'
  clear h h'
  go_enter Tryd.func54, Tryd.ntmps54
  go_wp2_with fail
  go_loopw [5] (fun i wr => ∃ k : Nat, k ≤ l.length ∧ i = .int .i64 k ∧ Dr w wr) (fun i _ => l.length - (intOf i).toNat)
  case atStart => exact ⟨0, by omega, rfl, Dr.refl _⟩
  case round =>
    obtain ⟨k, hk, rfl, hD⟩ := hrel
    by_cases hlt : k < l.length
    · obtain ⟨b1, o1, rfl, hc⟩ := (HR.out.ext hD.ext).int (by omega)
      obtain ⟨b2, o2, rfl, hd⟩ := (HS.out.ext hD.ext).int (by omega)
      have hck := hc k hlt
      have hdk := hd k hlt
      clear hc hd
      obtain ⟨s, hs⟩ : ∃ s, l[k] = s := ⟨_, rfl⟩
      rw [hs] at hck hdk
      clear hs
      go_wp2_with fail
      go_quiet (fail)
      go_wp2_with fail
      go_roundw
      case rel => exact ⟨k + 1, by omega, by go_num, hD.trans ⟨_, rfl⟩⟩
      case measure => simp [intOf]; omega
    · go_wp2_with fail
      go_returns
      exact ⟨rfl, hD⟩
end Go.Proofs.YtlnccdbmchjhlaaDoor
end
section
namespace Go.Proofs.YtlnccdbmchjhlaaDoor
set_option linter.unusedVariables false
set_option linter.unusedSimpArgs false
open Go Go.RowKit
/-- A tile set: its letters, and where its two lists lie. -/
abbrev tileV (s : ByteArray) (a b : Option Addr) (m n c d : Nat) (k : Int) : Value := .agg #[.string s, .slice a m c, .slice b n d, .int .i64 k]
def szT (L : Int) (s : ByteArray) (vs cs : List Int) : Int :=
  if L < s.size then -1 else if L - s.size < vs.length then -1 else if L - s.size - vs.length < cs.length then -1 else L - s.size - vs.length - cs.length
theorem szT_ok {L : Int} {s : ByteArray} {vs cs : List Int} (h : ¬ szT L s vs cs < 0) : (s.size : Int) + vs.length + cs.length ≤ L ∧ szT L s vs cs = L - s.size - vs.length - cs.length := by
  unfold szT at *
  split at h
  · omega
  · split at h
    · omega
    · split at h
      · omega
      · rename_i h1 h2 h3
        rw [if_neg h1, if_neg h2, if_neg h3]
        omega
/-- A tile set comes back, whose lists are the call's own. -/
def RetT (s : ByteArray) (vs cs : List Int) (k : Int) (w : World) (e : Ending) (w' : World) : Prop :=
  ∃ a b c d, e = .returned (tileV s a b vs.length cs.length c d k) ∧ OwnR w' w.heap.size a (intsV vs) ∧ OwnR w' w.heap.size b (intsV cs) ∧ Ext w w'
theorem OwnR.off {w : World} {B : Nat} {a : Option Addr} {xs : List Value} (h : OwnR w B a xs) {b o : Nat} (hb : b < B) (u : Value) : OwnR (w.setCell ⟨b, o, none⟩ u) B a xs := by
  rcases h with rfl | ⟨g, rfl, hg, h⟩
  · exact .inl rfl
  · have hne : b ≠ g := by omega
    exact .inr ⟨g, rfl, hg, ⟨by simpa [World.setCell] using h.1, fun j v hj => by rw [World.cell?_setCell_other _ _ _ _ (by intro e; exact hne (congrArg Addr.block e))]; exact h.2.1 j v hj, fun j hj => by simpa using h.2.2 j hj⟩⟩
end Go.Proofs.YtlnccdbmchjhlaaDoor
end
