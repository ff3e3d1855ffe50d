/- Several texts in one: MarkI, Dg5. Conditions: see each. -/
import Derived.Test.YtlnccdbmchjhlaaDoorMg7
import Derived.Test.YtlnccdbmchjhlaaDoorMg3
import Derived.Test.YtlnccdbmchjhlaaDoorDg4
section
namespace Go.Proofs.YtlnccdbmchjhlaaDoor
set_option linter.unusedVariables false
set_option linter.unusedSimpArgs false
open Go Go.RowKit
/-- Whole numbers that may be written. -/
def WrI (w : World) (g n : Nat) : Prop := g < w.heap.size ∧ ∀ j, j < n → (∃ z : Int, w.cell? ⟨g, j, none⟩ = some (.int .i64 z)) ∧ w.frozen? ⟨g, j, none⟩ = false
def InI (lo hi : Nat) (w : World) (a : Option Addr) (n : Nat) : Prop := n = 0 ∨ ∃ g, a = some ⟨g, 0, none⟩ ∧ lo ≤ g ∧ g < hi ∧ WrI w g n
theorem WrI.ext {w w' : World} {g n : Nat} (h : WrI w g n) (k : Ext w w') : WrI w' g n :=
  ⟨Nat.lt_of_lt_of_le h.1 k.size, fun j hj => by
    obtain ⟨⟨z, hz⟩, hf⟩ := h.2 j hj
    exact ⟨⟨z, k.cell hz⟩, by rw [k.cells.2 _ _ h.1]; exact hf⟩⟩
theorem WrI.set {w : World} {g n : Nat} (h : WrI w g n) (b o : Nat) (y : Int) : WrI (w.setCell ⟨b, o, none⟩ (.int .i64 y)) g n := by
  refine ⟨by simpa [World.setCell] using h.1, fun j hj => ?_⟩
  obtain ⟨⟨z, hz⟩, hf⟩ := h.2 j hj
  refine ⟨?_, by simpa using hf⟩
  by_cases e : (⟨b, o, none⟩ : Addr) = ⟨g, j, none⟩
  · rw [e]
    exact ⟨y, World.cell?_setCell_same _ _ _ hz⟩
  · exact ⟨z, by rw [World.cell?_setCell_other _ _ _ _ e]; exact hz⟩
theorem InI.ext {lo hi : Nat} {w w' : World} {a : Option Addr} {n : Nat} (h : InI lo hi w a n) (k : Ext w w') : InI lo hi w' a n := by
  rcases h with h | ⟨g, e, h1, h2, h3⟩
  · exact .inl h
  · exact .inr ⟨g, e, h1, h2, h3.ext k⟩
theorem InI.set {lo hi : Nat} {w : World} {a : Option Addr} {n : Nat} (h : InI lo hi w a n) (b o : Nat) (y : Int) : InI lo hi (w.setCell ⟨b, o, none⟩ (.int .i64 y)) a n := by
  rcases h with h | ⟨g, e, h1, h2, h3⟩
  · exact .inl h
  · exact .inr ⟨g, e, h1, h2, h3.set b o y⟩
theorem OwnR.inI {w : World} {B : Nat} {a : Option Addr} {l : List Int} (h : OwnR w B a (intsV l)) : InI B w.heap.size w a l.length := by
  rcases h with h | ⟨g, rfl, hb, h⟩
  · exact .inl (by have := congrArg List.length h; simpa [intsV] using this)
  · refine .inr ⟨g, rfl, hb, h.1, h.1, fun j hj => ⟨⟨l[j], h.2.1 j _ (intsV_get l j hj)⟩, h.2.2 j (by rw [intsV_length]; exact hj)⟩⟩
theorem Exb.setIn {lo hi : Nat} {w0 w : World} (h : Exb lo hi w0 w) {g : Nat} (h1 : lo ≤ g) (h2 : g < hi) (j : Nat) (u : Value) : Exb lo hi w0 (w.setCell ⟨g, j, none⟩ u) :=
  ⟨h.os, h.tape, h.output, Nat.le_trans h.size (by simp [World.setCell]), fun k hk ho => by
    rw [← h.block k hk ho]
    exact ((Exc.refl g w).setCell j u).block k (Nat.lt_of_lt_of_le hk h.size) (by omega)⟩
theorem Exb.trans {lo hi : Nat} {x y z : World} (h : Exb lo hi x y) (k : Exb lo hi y z) : Exb lo hi x z :=
  ⟨k.os.trans h.os, k.tape.trans h.tape, k.output.trans h.output, Nat.le_trans h.size k.size, fun q hq ho => (k.block q (Nat.lt_of_lt_of_le hq h.size) ho).trans (h.block q hq ho)⟩
set_option maxHeartbeats 400000 in
theorem markInt64S_nil (a : Option Addr) (c k : Nat) (w : World) : Calls Tryd.prog 41 #[.slice a 0 c, .int .i64 k] w (Same (.int .i64 k) w) := by
  go_enter Tryd.func41, Tryd.ntmps41
  go_wp2_with fail
  go_loop [1, 5] (fun t i => t = .int .i64 k ∧ i = .int .i64 0) (fun _ i => 0)
  case atStart => exact ⟨rfl, rfl⟩
  case round =>
    obtain ⟨rfl, rfl⟩ := hrel
    go_wp2_with fail
    go_returns
    exact ⟨rfl, rfl⟩
set_option maxHeartbeats 800000 in
/-- Marked without a look at what stood there: all that can be written stays so. -/
theorem markI_loose (lo hi : Nat) (a : Option Addr) (c n k : Nat) (w : World) (h : InI lo hi w a n) (hl : n ≤ 1048576) (hk1 : 1 ≤ k) (hk2 : k ≤ 4000000) :
    Calls Tryd.prog 41 #[.slice a n c, .int .i64 k] w fun e w' => e = .returned (.int .i64 ((k + n : Nat) : Int)) ∧ (∀ b m, InI lo hi w b m → InI lo hi w' b m) ∧ Exb lo hi w w' := by
  rcases h with rfl | ⟨g, rfl, h1, h2, h⟩
  · refine (markInt64S_nil a c k w).mono ?_
    rintro e w' ⟨rfl, rfl⟩
    exact ⟨rfl, fun b m h => h, Exb.of_ext (Ext.refl _)⟩
  · have HW := hid h
    clear h
    go_enter Tryd.func41, Tryd.ntmps41
    go_wp2_with fail
    go_loopw [1, 5] (fun t i wr => ∃ j : Nat, j ≤ n ∧ i = .int .i64 j ∧ t = .int .i64 ((k + j : Nat) : Int) ∧ Hid (WrI wr g n) ∧ Hid (∀ b m, InI lo hi w b m → InI lo hi wr b m) ∧ Hid (Exb lo hi w wr)) (fun _ i _ => n - (intOf i).toNat)
    case atStart => exact ⟨0, by omega, rfl, rfl, HW, hid (fun b m h => h), hid (Exb.of_ext (Ext.refl _))⟩
    case round =>
      clear HW
      obtain ⟨j, hj, rfl, rfl, hwr, hin, hx⟩ := hrel
      by_cases hlt : j < n
      · obtain ⟨⟨z, f1⟩, f2⟩ := hwr.out.2 j hlt
        have HI := hid (fun b m (h : InI lo hi w b m) => (hin.out b m h).set g j ((k + j : Nat) : Int))
        have HWR := hid (hwr.out.set g j ((k + j : Nat) : Int))
        have HX := hid (hx.out.setIn h1 h2 j (.int .i64 ((k + j : Nat) : Int)))
        clear hin hwr hx
        go_wp2_with fail
        go_roundw
        case rel => exact ⟨j + 1, by omega, by go_num, by go_num, HWR, HI, HX⟩
        case measure => simp [intOf]; omega
      · obtain rfl : j = n := by omega
        go_wp2_with fail
        go_returns
        exact ⟨rfl, hin.out, hx.out⟩
def marksI (n k : Nat) : List Int := (List.range n).map fun j => ((k + j : Nat) : Int)
theorem marksI_length (n k : Nat) : (marksI n k).length = n := by simp [marksI]
theorem mixI_start (l : List Int) (k : Nat) : ((List.range l.length).map fun q => if q < 0 then Value.int .i64 ((k + q : Nat) : Int) else .int .i64 (l.getD q 0)) = intsV l := by
  apply List.ext_getElem
  · simp [intsV]
  · intro i h1 h2
    simp [intsV] at h1 h2 ⊢
    simp [h1]
theorem mixI_end (l : List Int) (k : Nat) : ((List.range l.length).map fun q => if q < l.length then Value.int .i64 ((k + q : Nat) : Int) else .int .i64 (l.getD q 0)) = intsV (marksI l.length k) := by
  apply List.ext_getElem
  · simp [intsV, marksI]
  · intro i h1 h2
    simp [intsV, marksI] at h1 h2 ⊢
    intro h
    omega
set_option maxHeartbeats 800000 in
theorem markInt64S_wr (g c : Nat) (l : List Int) (k : Nat) (w : World) (h : Wr w g (intsV l)) (hl : l.length ≤ 1048576) (hk1 : 1 ≤ k) (hk2 : k ≤ 4000000) :
    Calls Tryd.prog 41 #[.slice (some ⟨g, 0, none⟩) l.length c, .int .i64 k] w fun e w' => e = .returned (.int .i64 ((k + l.length : Nat) : Int)) ∧ Wr w' g (intsV (marksI l.length k)) ∧ Exc g w w' := by
  have HS := hid (mixI_start l k)
  have HE := hid (mixI_end l k)
  rw [← HS.out] at h
  have hg := h.1
  have HW := hid h
  clear h
  go_enter Tryd.func41, Tryd.ntmps41
  go_wp2_with fail
  go_loopw [1, 5] (fun t i wr => ∃ j : Nat, j ≤ l.length ∧ i = .int .i64 j ∧ t = .int .i64 ((k + j : Nat) : Int) ∧ Hid (Wr wr g ((List.range l.length).map fun q => if q < j then Value.int .i64 ((k + q : Nat) : Int) else .int .i64 (l.getD q 0))) ∧ Exc g w wr) (fun _ i _ => l.length - (intOf i).toNat)
  case atStart => exact ⟨0, by omega, rfl, rfl, HW, Exc.refl _ _⟩
  case round =>
    clear HW HS
    obtain ⟨j, hj, rfl, rfl, hwr, hx⟩ := hrel
    by_cases hlt : j < l.length
    · have HZ := hid (hwr.out.set j (by simpa using hlt) (.int .i64 ((k + j : Nat) : Int)))
      obtain ⟨f1, f2⟩ := hwr.out.fit j (by simpa using hlt)
      clear hwr
      go_wp2_with fail
      go_roundw
      case rel =>
        refine ⟨j + 1, by omega, by go_num, by go_num, hid ?_, hx.setCell _ _⟩
        have e := set_map_range2 l.length j (fun q => .int .i64 ((k + q : Nat) : Int)) (fun q => .int .i64 (l.getD q 0)) hlt
        have := HZ.out
        rw [e] at this
        exact this
      case measure => simp [intOf]; omega
    · obtain rfl : j = l.length := by omega
      rw [HE.out] at hwr
      go_wp2_with fail
      go_returns
      exact ⟨rfl, hwr.out, hx⟩
theorem markInt64S_any (lo hi : Nat) (a : Option Addr) (c : Nat) (l : List Int) (k : Nat) (w : World) (h : InR lo hi w a (intsV l)) (hl : l.length ≤ 1048576) (hk1 : 1 ≤ k) (hk2 : k ≤ 4000000) :
    Calls Tryd.prog 41 #[.slice a l.length c, .int .i64 k] w fun e w' => e = .returned (.int .i64 ((k + l.length : Nat) : Int)) ∧ InR lo hi w' a (intsV (marksI l.length k)) ∧ Exb lo hi w w' := by
  rcases h with h | ⟨g, rfl, h1, h2, h⟩
  · have : l = [] := by cases l; rfl; simp [intsV] at h
    subst this
    refine (markInt64S_nil a c k w).mono ?_
    rintro e w' ⟨rfl, rfl⟩
    exact ⟨rfl, .inl rfl, Exb.of_ext (Ext.refl _)⟩
  · refine (markInt64S_wr g c l k w h hl hk1 hk2).mono ?_
    rintro e w' ⟨rfl, hw, hx⟩
    exact ⟨rfl, .inr ⟨g, rfl, h1, h2, hw⟩, Exb.of_exc hx h1 h2⟩
set_option maxHeartbeats 800000 in
theorem heldInt64S_any (a : Option Addr) (c n k : Nat) (w : World) (h : Rd w a (intsV (marksI n k))) (hl : n ≤ 1048576) (hk1 : 1 ≤ k) (hk2 : k ≤ 4000000) :
    Calls Tryd.prog 42 #[.slice a n c, .int .i64 k] w (Same (.int .i64 ((k + n : Nat) : Int)) w) := by
  have HR := hid h
  clear h
  go_enter Tryd.func42, Tryd.ntmps42
  go_wp2_with fail
  go_loopw [1, 5] (fun t i wr => ∃ j : Nat, j ≤ n ∧ i = .int .i64 j ∧ t = .int .i64 ((k + j : Nat) : Int) ∧ wr = w) (fun _ i _ => n - (intOf i).toNat)
  case atStart => exact ⟨0, by omega, rfl, rfl, rfl⟩
  case round =>
    obtain ⟨j, hj, rfl, rfl, rfl⟩ := hrel
    by_cases hlt : j < n
    · obtain ⟨b, o, rfl, hc⟩ := HR.out.int (by rw [marksI_length]; omega)
      have hck := hc j (by rw [marksI_length]; exact hlt)
      have e : (marksI n k)[j]'(by rw [marksI_length]; exact hlt) = ((k + j : Nat) : Int) := by simp [marksI]
      rw [e] at hck
      clear hc e
      obtain ⟨q, hq⟩ : ∃ q, o + j = q := ⟨_, rfl⟩
      rw [hq] at hck
      go_wp2_with fail
      go_roundw
      case rel => exact ⟨j + 1, by omega, by go_num, by go_num, trivial⟩
      case measure => simp [intOf]; omega
    · obtain rfl : j = n := by omega
      go_wp2_with fail
      go_returns
      exact ⟨rfl, rfl⟩
end Go.Proofs.YtlnccdbmchjhlaaDoor
end
section
namespace Go.Proofs.YtlnccdbmchjhlaaDoor
set_option linter.unusedVariables false
set_option linter.unusedSimpArgs false
open Go Go.RowKit
def eqDg (L M : List NdP) : Bool := decide (L.length = M.length) && (List.range L.length).all fun i => eqNd (ndAt L i).nd (ndAt M i).nd
theorem ndAt_of (L : List NdP) (k : Nat) : (ndAt L k).nd = (ndsOf L).getD k noNd.nd := by
  unfold ndAt ndsOf
  rw [List.getD_eq_getElem?_getD, List.getD_eq_getElem?_getD, List.getElem?_map]
  cases L[k]? <;> rfl
theorem eqDg_congr {L L' M M' : List NdP} (h : ndsOf L = ndsOf L') (k : ndsOf M = ndsOf M') : eqDg L M = eqDg L' M' := by
  have h1 : L.length = L'.length := by rw [← ndsOf_length, h, ndsOf_length]
  have h2 : M.length = M'.length := by rw [← ndsOf_length, k, ndsOf_length]
  unfold eqDg
  rw [h1, h2]
  congr 1
  congr 1
  funext i
  rw [ndAt_of, ndAt_of, ndAt_of, ndAt_of, h, k]
theorem eqDg_len {L M : List NdP} (h : L.length ≠ M.length) : eqDg L M = false := by unfold eqDg; rw [decide_eq_false h]; rfl
theorem eqDg_no {L M : List NdP} (k : Nat) (hk : k < L.length) (h : eqNd (ndAt L k).nd (ndAt M k).nd = false) : eqDg L M = false := by
  unfold eqDg
  rw [Bool.and_eq_false_iff]
  right
  rw [List.all_eq_false]
  exact ⟨k, List.mem_range.2 hk, by simp [h]⟩
theorem eqDg_yes {L M : List NdP} (hl : L.length = M.length) (h : ∀ k, k < L.length → eqNd (ndAt L k).nd (ndAt M k).nd = true) : eqDg L M = true := by
  unfold eqDg
  rw [decide_eq_true hl, Bool.true_and, List.all_eq_true]
  exact fun k hk => h k (List.mem_range.1 hk)
/-- Every node's list is short. -/
def NdSh (L : List NdP) : Prop := ∀ p ∈ L, p.nd.nx.length ≤ 1048576
end Go.Proofs.YtlnccdbmchjhlaaDoor
end
