/- Several texts in one: Mark, LexC, Row, Row2, RowB, RowD. Conditions: see each. -/
import Derived.Test.YtlnccdbmchjhlaaDoorLex
import Derived.Test.YtlnccdbmchjhlaaDoorBase
import Derived.ProofKit
import Derived.OpenShut
import Derived.ShutString
import Derived.ChangeOld
import Derived.Below
import Derived.Lib.SmallJoins
import Derived.SliceStrings
import Derived.Test.YtlnccdbmchjhlaaDoorTie
import Derived.Test.YtlnccdbmchjhlaaDoorCards
import Derived.PinnedBridge
import Derived.Lay
import Derived.LaidMore
import Derived.SevenTiedAt
import Derived.Lib.LaidU8
import Derived.Test.YtlnccdbmchjhlaaDoorCh06a
import Derived.Stop.LaidErr
import Derived.Lib.LaidTab
section
namespace Go.Proofs.YtlnccdbmchjhlaaDoor
set_option linter.unusedVariables false
set_option linter.unusedSimpArgs false
open Go Go.RowKit
theorem OwnR.inR {w : World} {B : Nat} {a : Option Addr} {xs : List Value} (h : OwnR w B a xs) : InR B w.heap.size w a xs := by
  rcases h with rfl | ⟨g, rfl, hb, h⟩
  · exact .inl rfl
  · exact .inr ⟨g, rfl, hb, h.1, h⟩
theorem markS_any (lo hi : Nat) (a : Option Addr) (c : Nat) (l : List ByteArray) (k : Nat) (w : World) (h : InR lo hi w a (strsV l)) (hl : l.length ≤ 1048576) (hk1 : 1 ≤ k) (hk2 : k ≤ 2000000) :
    Calls Tryd.prog 26 #[.slice a l.length c, .int .i64 k] w fun e w' => e = .returned (.int .i64 ((k + l.length : Nat) : Int)) ∧ InR lo hi w' a (strsV (marksL l.length k)) ∧ Exb lo hi w w' := by
  rcases h with h | ⟨g, rfl, h1, h2, h⟩
  · have : l = [] := by cases l; rfl; simp [strsV] at h
    subst this
    refine (markStringS_nil a c k w).mono ?_
    rintro e w' ⟨rfl, rfl⟩
    exact ⟨rfl, .inl rfl, Exb.of_ext (Ext.refl _)⟩
  · refine (markStringS_any g c l k w h hl hk1 hk2).mono ?_
    rintro e w' ⟨rfl, hw, hx⟩
    exact ⟨rfl, .inr ⟨g, rfl, h1, h2, hw⟩, Exb.of_exc hx h1 h2⟩
theorem markX_any (lo hi : Nat) (a : Option Addr) (c : Nat) (l : List ByteArray) (k : Nat) (w : World) (h : InR lo hi w a (strsV l)) (hl : l.length ≤ 1048576) (hk1 : 1 ≤ k) (hk2 : k ≤ 2000000) :
    Calls Tryd.prog 11 #[lexV a l.length c, .int .i64 k] w fun e w' => e = .returned (.int .i64 ((k + l.length : Nat) : Int)) ∧ InR lo hi w' a (strsV (marksL l.length k)) ∧ Exb lo hi w w' := by
  have HR := hid (h.ext ((Ext.refl w).alloc (.cells #[.slice a l.length c] 31)))
  clear h
  go_enter Tryd.func11, Tryd.ntmps11
  go_wp2_with fail
  refine (markS_any lo hi a c l k _ HR.out hl hk1 hk2).mono ?_
  rintro e w1 ⟨rfl, hr, hx⟩
  have HP := hid hr
  clear hr
  go_wp2_with fail
  go_returns
  exact ⟨rfl, HP.out, Exb.pre ((Ext.refl w).alloc _) hx⟩
/-- A lexicon with these words. -/
def LexIs (l : List ByteArray) (v : Value) (w : World) : Prop := ∃ a c, v = lexV a l.length c ∧ Rd w a (strsV l)
theorem LexIs.ext {l : List ByteArray} {v : Value} {w w' : World} (h : LexIs l v w) (k : Ext w w') : LexIs l v w' := by
  obtain ⟨a, c, h1, h2⟩ := h
  exact ⟨a, c, h1, h2.ext k⟩
theorem flow_lex {P : Program} {f : FuncId} {args : Array Value} {w : World} {l : List ByteArray} (h : Calls P f args w (RetX l w)) : flowUpon P Ext w (fun v w' => LexIs l v w') (.ok (.enter f args) w) :=
  ⟨Ext.refl w, h.mono fun _ _ ⟨a, c, he, ho, hx⟩ => ⟨_, he, hx, a, c, rfl, ho.rd⟩⟩
end Go.Proofs.YtlnccdbmchjhlaaDoor
end
section
namespace Go.Proofs.YtlnccdbmchjhlaaDoor
set_option linter.unusedVariables false
set_option linter.unusedSimpArgs false
open Go Go.RowKit
set_option maxHeartbeats 400000 in
theorem toStringS_cap (a : Option Addr) (c : Nat) (l : List ByteArray) (w : World) (h : Rd w a (strsV l)) (hl : l.length ≤ 1048576) :
    Calls Tryd.prog 20 #[.slice a l.length c] w (fun e w' => ∃ a, e = .returned (.slice a l.length l.length) ∧ OwnR w' w.heap.size a (strsV l) ∧ Ext w w') := by
  have HR := hid h
  clear h
  go_enter Tryd.func20, Tryd.ntmps20
  go_wp2_with (refine wpList_make1 rfl _ _ 22 rfl El_str rfl l.length rfl rfl rfl rfl (by omega) (by unfold maxLen; omega) ?_; intro wm hwr _ hx)
  go_loopw [4] (fun i wr => ∃ k : Nat, k ≤ l.length ∧ i = .int .i64 k ∧ Wr wr w.heap.size ((List.range l.length).map fun j => if j < k then .string (l.getD j ⟨#[]⟩) else .string ⟨#[]⟩) ∧ Ext w wr) (fun i _ => l.length - (intOf i).toNat)
  case atStart => exact ⟨0, by omega, rfl, by simpa [List.map_const'] using hwr, hx⟩
  case round =>
    clear hwr hx
    obtain ⟨k, hk, rfl, hwr, hx⟩ := hrel
    by_cases hlt : k < l.length
    · obtain ⟨b, o, rfl, hc⟩ := (HR.out.ext hx).str (by omega)
      have hck := hc k hlt
      have HS := hid (show (Value.string (l.getD k ⟨#[]⟩)) = .string l[k] by rw [List.getD_eq_getElem?_getD, List.getElem?_eq_getElem hlt]; rfl)
      have HW := hid (hwr.set k (by simpa using hlt) (.string (l.getD k ⟨#[]⟩)))
      obtain ⟨f1, f2⟩ := hwr.fit k (by simpa using hlt)
      clear hwr hc
      obtain ⟨s, hs⟩ : ∃ s, l[k] = s := ⟨_, rfl⟩
      rw [hs] at hck HS
      clear hs
      go_wp2_with fail
      go_roundw
      case rel =>
        refine ⟨k + 1, by omega, by go_num, ?_, hx.setCell (by simp) _⟩
        have e := set_map_range l.length k (fun j => .string (l.getD j ⟨#[]⟩)) (.string ⟨#[]⟩) hlt
        have := HW.out
        rw [e, HS.out] at this
        exact this
      case measure => simp [intOf]; omega
    · obtain rfl : k = l.length := by omega
      have HW := hid hwr
      clear hwr
      go_wp2_with fail
      go_returns
      refine ⟨some ⟨w.heap.size, 0, none⟩, rfl, ?_, hx⟩
      have e : (List.range l.length).map (fun j => if j < l.length then Value.string (l.getD j ⟨#[]⟩) else .string ⟨#[]⟩) = strsV l := by
        apply List.ext_getElem
        · simp [strsV]
        · intro j h1 h2
          simp at h1
          simp [strsV, h1]
      have := HW.out
      rw [e] at this
      exact .inr ⟨_, rfl, Nat.le_refl _, this⟩
set_option maxHeartbeats 400000 in
theorem toLexicon_cap (a : Option Addr) (c : Nat) (l : List ByteArray) (w : World) (h : Rd w a (strsV l)) (hl : l.length ≤ 1048576) :
    Calls Tryd.prog 7 #[lexV a l.length c] w (fun e w' => ∃ a, e = .returned (lexV a l.length l.length) ∧ OwnR w' w.heap.size a (strsV l) ∧ Ext w w') := by
  have HR : Hid (∀ w', Ext w w' → Rd w' a (strsV l)) := hid (fun w' k => h.ext k)
  clear h
  go_enter Tryd.func7, Tryd.ntmps7
  go_wp2_with fail
  refine (toStringS_cap a c l _ (HR.out _ ((((Ext.refl w).alloc _).alloc _).alloc _)) hl).mono ?_
  rintro e w1 ⟨a', rfl, hown, hx⟩
  have r0 := hx.cell (b := w.heap.size + 1) (o := 0) (v := .slice none 0 0) (by go_cell)
  have r1 := hx.cell (b := w.heap.size + 2) (o := 0) (v := .slice none 0 0) (by go_cell)
  have rf : ∀ j, w1.frozen? ⟨w.heap.size + 1, j, none⟩ = false := fun j => by rw [hx.cells.2 _ _ (by simp only [World.size_alloc]; omega)]; go_cell
  have rg : ∀ j, w1.frozen? ⟨w.heap.size + 2, j, none⟩ = false := fun j => by rw [hx.cells.2 _ _ (by simp only [World.size_alloc]; omega)]; go_cell
  have hE : Ext w w1 := ((((Ext.refl w).alloc _).alloc _).alloc _).trans hx
  have hs := hx.size
  simp only [World.size_alloc] at hs hown
  have HO := hid hown
  clear hx hown
  go_wp2_with fail
  refine bodyPost_ret (v := lexV a' l.length l.length) (by simp [results, Tryd.results7, go_sem, r0, r1, rf, rg]) rfl ⟨a', rfl, ?_, (hE.setCell (by simp only [World.size_alloc]; omega) _).setCell (by simp only [World.size_alloc]; omega) _⟩
  rcases HO.out with h | ⟨g, rfl, hg, hw⟩
  · exact .inl h
  · refine .inr ⟨g, rfl, by omega, ?_⟩
    exact (hw.other (by omega)).other (by omega)
end Go.Proofs.YtlnccdbmchjhlaaDoor
end
section
namespace Go.Proofs.YtlnccdbmchjhlaaDoor
open Go Go.ChangeShapes Go.WideShapes Go.ChangeAt Go.RowKit
set_option linter.unusedVariables false
theorem ownRow : ownKnob Tryd.prog.godebug = none := by kernel_rfl
theorem laidRow : laidOutB Tryd.prog = true := by kernel_rfl
/-- An integer that came in fits its kind. -/
theorem wf_i64 {a : Int} (h : (Lit.int .i64 a).wf = true) : -9223372036854775808 ≤ a ∧ a ≤ 9223372036854775807 := by
  simp only [Lit.wf, Bool.and_eq_true, decide_eq_true_eq] at h
  exact h
theorem wf_u8 {a : Int} (h : (Lit.int .u8 a).wf = true) : 0 ≤ a ∧ a < 256 := by
  simp only [Lit.wf, Bool.and_eq_true, decide_eq_true_eq] at h
  obtain ⟨h1, h2⟩ := h
  have h3 : a ≤ 255 := h2
  exact ⟨h1, by omega⟩
end Go.Proofs.YtlnccdbmchjhlaaDoor
end
section
namespace Go.Proofs.YtlnccdbmchjhlaaDoor
open Go Go.ChangeShapes Go.WideShapes Go.ChangeAt Go.RowKit Go.Deep
set_option linter.unusedVariables false
theorem rd_strings {w : World} {a : Addr} {ss : List ByteArray} {len : Nat} (hc : ∀ i, i < ss.length → w.cell? (a.add i) = some (.string (ss.getD i ByteArray.empty))) : Rd w (some a) (strsV (ss.take len)) := by
  intro j u hj
  have hj' : j < ss.length := by
    have := (List.getElem?_eq_some_iff.1 hj).1
    rw [strsV_length] at this
    simp at this
    omega
  have h := hc j hj'
  obtain ⟨b, o, spot⟩ := a
  have hspot := World.cell?_spot (hc 0 (by omega))
  have hu : u = .string (ss.getD j ByteArray.empty) := by
    have hl : j < (ss.take len).length := by
      have := (List.getElem?_eq_some_iff.1 hj).1
      rwa [strsV_length] at this
    rw [strsV_get _ j hl] at hj
    cases hj
    simp [List.getD_eq_getElem?_getD, hj']
  have hs : spot = none := by simpa [Addr.add] using hspot
  subst hs
  refine ⟨b, o, rfl, ?_⟩
  rw [hu]
  by_cases hj0 : j = 0
  · subst hj0; simpa [Addr.add] using h
  · simpa [Addr.add, hj0] using h
section
variable {H : Type} {enc : TypeId × Value → H} {P : Program} {w : World} {base : Nat} {held : Bool}
theorem open_lex {r : Reach} {b0 : Nat} {t e : TypeId} {f0 : Field} {v : Value} {d : DataW H} {p : List MemPlace} (hs : P.underlying t = some (.struct #[f0])) (hone : oneCellFields P #[f0] = true) (hC : P.cellsOf t = 1)
    (hf : P.underlying f0.type = some (.slice e)) (he : P.underlying e = some .string) (hc : P.cellsOf e = 1)
    (hv : Value.okWide P w r b0 t v) (h : DataW.Trod enc P w base (fun _ => true) held t v d p) :
    ∃ (a : Option Addr) (c : Nat) (l : List ByteArray), v = lexV a l.length c ∧ Rd w a (strsV l) ∧ l.length ≤ maxLen ∧ ∀ s ∈ l, s.size ≤ maxLen := by
  obtain ⟨cs, rfl, hsz⟩ := okWide_struct hs hv
  obtain ⟨c0, rfl⟩ : ∃ c0, cs = #[c0] := by
    obtain ⟨l⟩ := cs
    match l, hsz.trans hC with
    | [c0], _ => exact ⟨c0, rfl⟩
  obtain ⟨fuel, hf'⟩ := h
  obtain ⟨y0, n, hx, _, h0⟩ := trod_struct1 hs hf'
  obtain ⟨o0, k0⟩ := hone_of hone 0 f0 rfl
  have h1 : DataW.trod enc P w base (fun _ => true) held n f0.type [c0] = some y0 := by simpa [Value.cells, o0, k0] using h0
  rcases open_strings hf he hc h1 with ⟨h2, _⟩ | ⟨a, len, cap, ss, h2, _, hl, hm, hlen, _, hcell, hsm⟩
  · cases h2
    exact ⟨none, 0, [], rfl, Rd.nil _ _, by simp, by simp⟩
  · cases h2
    simp at hlen
    refine ⟨some a, cap, ss.take len, ?_, rd_strings hcell, by simp; omega, fun s hs => hsm s (List.mem_of_mem_take hs)⟩
    have : (ss.take len).length = len := by simp; omega
    rw [this]
end
end Go.Proofs.YtlnccdbmchjhlaaDoor
end
section
namespace Go.Proofs.YtlnccdbmchjhlaaDoor
end Go.Proofs.YtlnccdbmchjhlaaDoor
end
section
namespace Go.Proofs.YtlnccdbmchjhlaaDoor
open Go Go.ChangeShapes Go.WideShapes Go.ChangeAt Go.RowKit Go.Lib
set_option linter.unusedVariables false
set_option maxRecDepth 100000
theorem powD_eq : (Rows.laid_internal_strconv_uint64pow10 : DataW Unit) = Lib.tabData .u64 Lib.pow10Tab := by kernel_rfl
theorem tabF_of {W : World} {a b : String × DataW Unit} {r : List (String × DataW Unit)}
    (h : laidMet Tryd.prog (a :: b :: ("internal/strconv.uint64pow10", Rows.laid_internal_strconv_uint64pow10) :: r) W) : TabF W := by
  have h3 := h.tail.tail
  rw [powD_eq] at h3
  exact Lib.tabIs_of_head (g := 0) (t := 137) (e := 107) (n := 20) (by kernel_rfl) (by kernel_rfl) Tryd.underlying137 Tryd.underlying107 (by kernel_rfl) (by kernel_rfl) h3
end Go.Proofs.YtlnccdbmchjhlaaDoor
end
