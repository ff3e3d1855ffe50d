/- Several texts in one: Ch09b, Ch09c. Conditions: see each. -/
import Derived.Test.YtabljchbchjjcaaGreatDoorMg13
import Derived.Test.YtabljchbchjjcaaGreatDoorShelf
import Derived.Test.YtabljchbchjjcaaGreatDoorMg1
import Derived.Lib.IndexLaws
section
namespace Go.Proofs.YtabljchbchjjcaaGreatDoor
set_option linter.unusedVariables false
set_option linter.unusedSimpArgs false
open Go Go.RowKit
def posS (s : ByteArray) : Int := Go.Lib.indexByte s.data.toList 62
def cutB (s : ByteArray) : ByteArray := if 0 ≤ posS s then s.extract 0 (posS s).toNat else s
def cutE (s : ByteArray) : ByteArray := if 0 ≤ posS s then s.extract ((posS s).toNat + 1) s.size else ⟨#[]⟩
theorem at_some {s : ByteArray} {k : Nat} (h : k < s.size) : s.data.toList[k]? = some (bAt s k) := by
  rw [Array.getElem?_toList, ← bAt_eq s k h]
  exact Array.getElem?_eq_getElem h
theorem posS_cases (s : ByteArray) : (posS s = -1 ∧ ∀ k, k < s.size → bAt s k ≠ 62) ∨ ∃ j : Nat, posS s = j ∧ j < s.size ∧ bAt s j = 62 ∧ ∀ k, k < j → bAt s k ≠ 62 := by
  have hge := Go.Lib.indexByte_ge s.data.toList 62
  by_cases h : posS s = -1
  · refine .inl ⟨h, fun k hk hb => ?_⟩
    exact Go.Lib.indexByte_none h k (by rw [at_some hk, hb])
  · obtain ⟨j, hj⟩ : ∃ j : Nat, posS s = j := ⟨(posS s).toNat, by unfold posS at h ⊢; omega⟩
    obtain ⟨h1, h2⟩ := Go.Lib.indexByte_some (show Go.Lib.indexByte s.data.toList 62 = (j : Int) from hj)
    have hjs : j < s.size := by
      have := (List.getElem?_eq_some_iff.1 h1).1
      simpa using this
    refine .inr ⟨j, hj, hjs, ?_, fun k hk hb => h2 k hk (by rw [at_some (by omega), hb])⟩
    rw [at_some hjs] at h1
    simpa using h1
/-- Pieces between signs, and where the next one begins. -/
def cutS (s : ByteArray) : Nat → List ByteArray × Nat
  | 0 => ([], 0)
  | k + 1 => if bAt s k = 62 then ((cutS s k).1 ++ [s.extract (cutS s k).2 k], k + 1) else cutS s k
theorem cutS_le (s : ByteArray) (k : Nat) : (cutS s k).2 ≤ k ∧ (cutS s k).1.length ≤ k := by
  induction k with
  | zero => simp [cutS]
  | succ k ih =>
    unfold cutS
    split
    · simp; omega
    · omega
theorem cutS_none (s : ByteArray) (k : Nat) (h : ∀ i, i < k → bAt s i ≠ 62) : cutS s k = ([], 0) := by
  induction k with
  | zero => rfl
  | succ k ih =>
    unfold cutS
    rw [if_neg (h k (by omega))]
    exact ih fun i hi => h i (by omega)
theorem cutS_one (s : ByteArray) (j m : Nat) (h0 : ∀ i, i < j → bAt s i ≠ 62) (h1 : bAt s j = 62) (h : ∀ i, j < i → i < j + 1 + m → bAt s i ≠ 62) : cutS s (j + 1 + m) = ([s.extract 0 j], j + 1) := by
  induction m with
  | zero =>
    show cutS s (j + 1) = _
    unfold cutS
    rw [if_pos h1, cutS_none s j h0]
    rfl
  | succ m ih =>
    show cutS s (j + 1 + m + 1) = _
    unfold cutS
    rw [if_neg (h _ (by omega) (by omega))]
    exact ih fun i hi hk => h i hi (by omega)
theorem cutS_mono (s : ByteArray) (k m : Nat) : (cutS s k).1.length ≤ (cutS s (k + m)).1.length := by
  induction m with
  | zero => exact Nat.le_refl _
  | succ m ih =>
    refine Nat.le_trans ih ?_
    show _ ≤ (cutS s (k + m + 1)).1.length
    rw [cutS]
    split
    · simp
    · exact Nat.le_refl _
theorem cutS_step (s : ByteArray) (k : Nat) (h : bAt s k = 62) : (cutS s (k + 1)).1.length = (cutS s k).1.length + 1 := by
  rw [cutS, if_pos h]
  simp
def splitL (s : ByteArray) : List ByteArray := (cutS s s.size).1 ++ [s.extract (cutS s s.size).2 s.size]
theorem splitL_length (s : ByteArray) : (splitL s).length = (cutS s s.size).1.length + 1 := by simp [splitL]
theorem extract_whole (s : ByteArray) : s.extract 0 s.size = s := by simp
theorem split_cases (s : ByteArray) : (posS s = -1 ∧ splitL s = [s]) ∨ (∃ j : Nat, posS s = j ∧ j < s.size ∧ bAt s j = 62 ∧ splitL s = [s.extract 0 j, s.extract (j + 1) s.size]) ∨ (2 < (splitL s).length ∧ ∃ j p : Nat, posS s = j ∧ j < p ∧ p < s.size ∧ bAt s p = 62) := by
  rcases posS_cases s with ⟨h1, h2⟩ | ⟨j, h1, h2, h3, h4⟩
  · refine .inl ⟨h1, ?_⟩
    unfold splitL
    rw [cutS_none s _ h2, extract_whole]
    rfl
  · by_cases hp : ∃ p, j < p ∧ p < s.size ∧ bAt s p = 62
    · obtain ⟨p, p1, p2, p3⟩ := hp
      refine .inr (.inr ⟨?_, j, p, h1, p1, p2, p3⟩)
      rw [splitL_length]
      have a1 := cutS_step s j h3
      have a2 := cutS_mono s (j + 1) (p - (j + 1))
      rw [show j + 1 + (p - (j + 1)) = p by omega] at a2
      have a3 := cutS_step s p p3
      have a4 := cutS_mono s (p + 1) (s.size - (p + 1))
      rw [show p + 1 + (s.size - (p + 1)) = s.size by omega] at a4
      omega
    · refine .inr (.inl ⟨j, h1, h2, h3, ?_⟩)
      unfold splitL
      have e := cutS_one s j (s.size - (j + 1)) h4 h3 (fun i hi hk hb => hp ⟨i, hi, by omega, hb⟩)
      rw [show j + 1 + (s.size - (j + 1)) = s.size by omega] at e
      rw [e]
      rfl
end Go.Proofs.YtabljchbchjjcaaGreatDoor
end
section
namespace Go.Proofs.YtabljchbchjjcaaGreatDoor
set_option linter.unusedVariables false
set_option linter.unusedSimpArgs false
open Go Go.RowKit
theorem ba_ext {a b : ByteArray} (h : a.data.toList = b.data.toList) : a = b := by
  cases a
  cases b
  congr 1
  exact Array.toList_inj.1 h
theorem extL (s : ByteArray) (i j : Nat) : (s.extract i j).data.toList = (s.data.toList.drop i).take (j - i) := by
  rw [ByteArray.data_extract, Array.toList_extract, List.extract_eq_take_drop]
theorem appL (a b : ByteArray) : (a ++ b).data.toList = a.data.toList ++ b.data.toList := by simp
theorem lenL (s : ByteArray) : s.data.toList.length = s.size := by simp
theorem revL (s : ByteArray) : (revS s).data.toList = s.data.toList.reverse := by simp [revS]
theorem revS_revS (s : ByteArray) : revS (revS s) = s := ba_ext (by simp [revL])
theorem app_nil (s : ByteArray) : s ++ ⟨#[]⟩ = s := ba_ext (by simp)
theorem nil_of {s : ByteArray} (h : s.size = 0) : s = ⟨#[]⟩ := ba_ext (by
  have := lenL s
  rw [h] at this
  rw [List.eq_nil_of_length_eq_zero this])
theorem ne_nil {s : ByteArray} (h : ¬ s.size = 0) : s.toList.isEmpty = false ∧ ¬ s.toList = [] := by
  have : s.toList ≠ [] := by
    rw [Go.Lib.toList_data]
    intro e
    have := lenL s
    rw [e] at this
    exact h this.symm
  exact ⟨by cases hs : s.toList; exact absurd hs this; rfl, this⟩
theorem toList_beq (p q : ByteArray) : (p.toList == q.toList) = decide (p = q) := by
  rw [Go.Lib.toList_data, Go.Lib.toList_data, Bool.eq_iff_iff, beq_iff_eq, decide_eq_true_eq]
  exact ⟨ba_ext, fun h => by rw [h]⟩
theorem app_left (a b : ByteArray) : (a ++ b).extract 0 a.size = a := ba_ext (by
  rw [extL, appL, List.drop_zero, Nat.sub_zero, ← lenL a]
  simp)
theorem app_right (a b : ByteArray) : (a ++ b).extract a.size (a ++ b).size = b := ba_ext (by
  rw [extL, appL, List.drop_left' (lenL a), ByteArray.size_append, Nat.add_sub_cancel_left, ← lenL b, List.take_length])
theorem whole {s : ByteArray} {j : Nat} (h : j < s.size) (h62 : bAt s j = 62) : (s.extract 0 j ++ ⟨#[62]⟩) ++ s.extract (j + 1) s.size = s := ba_ext (by
  rw [appL, appL, extL, extL, List.drop_zero, Nat.sub_zero]
  have hl : j < s.data.toList.length := by rw [lenL]; exact h
  have e : s.data.toList.drop j = 62 :: s.data.toList.drop (j + 1) := by
    rw [List.drop_eq_getElem_cons hl]
    congr 1
    have := at_some h
    rw [List.getElem?_eq_getElem hl, h62] at this
    exact Option.some.inj this
  have e2 : (s.data.toList.drop (j + 1)).take (s.size - (j + 1)) = s.data.toList.drop (j + 1) := List.take_of_length_le (by rw [List.length_drop, lenL]; exact Nat.le_refl _)
  rw [e2]
  conv => rhs; rw [← List.take_append_drop j s.data.toList, e]
  simp)
def formS (x : ByteArray) (k : Nat) : ByteArray := if k = x.size then revS x else (revS (x.extract 0 k) ++ ⟨#[62]⟩) ++ x.extract k x.size
def wordF (s : ByteArray) : ByteArray := revS (cutB s) ++ cutE s
def okF (s : ByteArray) : Bool := decide (0 < (cutB s).size) && (decide (posS s < 0) || decide (0 < (cutE s).size)) && wordOk (wordF s)
def wofV (s : ByteArray) : Value := if okF s then .tuple #[.string (wordF s), .int .i64 (cutB s).size, .int .i64 0] else .tuple #[.string ⟨#[]⟩, .int .i64 0, .int .i64 7]
set_option maxHeartbeats 1000000 in
theorem l09Form_any (x : ByteArray) (k : Nat) (w : World) (hs : x.size ≤ 1048576) (hk : k ≤ x.size) : Calls Tryz.prog 31 #[.string x, .int .i64 k] w (Ret (.string (formS x k)) w) := by
  by_cases he : k = x.size
  · subst he
    have H : Hid (formS x x.size = revS x) := hid (by unfold formS; rw [if_pos rfl])
    rw [H.out]
    go_enter Tryz.func31, Tryz.ntmps31
    go_wp2_with fail
    refine (l08Back_any x _ hs).mono ?_
    rintro e w1 ⟨rfl, hx⟩
    go_wp2_with fail
    go_returns
    exact ⟨rfl, hx⟩
  · have H : Hid (formS x k = (revS (x.extract 0 k) ++ ⟨#[62]⟩) ++ x.extract k x.size) := hid (by unfold formS; rw [if_neg he])
    rw [H.out]
    obtain ⟨A, hA⟩ : ∃ A, x.extract 0 k = A := ⟨_, rfl⟩
    obtain ⟨B, hB⟩ : ∃ B, x.extract k x.size = B := ⟨_, rfl⟩
    have sA : A.size ≤ 1048576 := by rw [← hA, ByteArray.size_extract]; omega
    have sB : B.size ≤ 1048576 := by rw [← hB, ByteArray.size_extract]; omega
    have HBA := hid (fun w => l08Back_any A w sA)
    have sR : (revS A).size ≤ 1048576 := by rw [revS_size]; exact sA
    rw [hA, hB]
    obtain ⟨R, hR⟩ : ∃ R, revS A = R := ⟨_, rfl⟩
    rw [hR] at HBA sR ⊢
    clear hR H
    go_enter Tryz.func31, Tryz.ntmps31
    go_wp2_with fail
    refine wp_region_flow_at (C := Ext) 9 [fun v _ => v = .string x, fun v _ => v = .int .i64 (k : Int), fun v _ => v = .string A, fun v _ => v = .string R, fun v _ => v = .string (R ++ ⟨#[62]⟩), fun v _ => v = .string x, fun v _ => v = .int .i64 (k : Int), fun v _ => v = .string B, fun v _ => v = .string ((R ++ ⟨#[62]⟩) ++ B)]
      [[(0, none)], [(1, none)], [(11, some 0), (12, some 1)], [(13, some 2)], [(14, some 3)], [(0, none)], [(1, none)], [(16, some 5), (17, some 6)], [(15, some 4), (18, some 7)]] (by kernel_rfl) (by kernel_rfl) Ext.refl (fun _ _ _ => Ext.trans) ?_ ?_ ?_
    · intro F hF
      simp only [List.mem_cons, List.not_mem_nil, or_false] at hF
      rcases hF with rfl | rfl | rfl | rfl | rfl | rfl | rfl | rfl | rfl <;> exact fun _ _ _ h _ => h
    · refine ⟨?_, ?_, ?_, ?_, ?_, ?_, ?_, ?_, ?_, trivial⟩
      · rintro ρ w1 hw hcst hfn hk
        clear hw
        simp only [known, List.getD_cons_zero, List.getD_cons_succ, Nat.reduceAdd] at hk
        simp only [List.getD_cons_zero, List.getD_cons_succ, Nat.reduceAdd, flowAt]
        go_simp
        exact ⟨Ext.refl _, by first | rfl | trivial⟩
      · rintro ρ w1 hw hcst hfn hk
        clear hw
        simp only [known, List.getD_cons_zero, List.getD_cons_succ, Nat.reduceAdd] at hk
        simp only [List.getD_cons_zero, List.getD_cons_succ, Nat.reduceAdd, flowAt]
        go_simp
        exact ⟨Ext.refl _, by first | rfl | trivial⟩
      · rintro ρ w1 hw hcst hfn hk
        simp only [known, List.getD_cons_zero, List.getD_cons_succ, Nat.reduceAdd] at hk
        simp only [List.getD_cons_zero, List.getD_cons_succ, Nat.reduceAdd, flowAt]
        go_simp
        exact ⟨Ext.refl _, by first | rfl | rw [hA]⟩
      · rintro ρ w1 hw hcst hfn hk
        simp only [known, List.getD_cons_zero, List.getD_cons_succ, Nat.reduceAdd] at hk
        simp only [List.getD_cons_zero, List.getD_cons_succ, Nat.reduceAdd, flowAt]
        go_simp
        exact flow_ret (HBA.out _)
      · rintro ρ w1 hw hcst hfn hk
        simp only [known, List.getD_cons_zero, List.getD_cons_succ, Nat.reduceAdd] at hk
        simp only [List.getD_cons_zero, List.getD_cons_succ, Nat.reduceAdd, flowAt]
        go_simp
        (rw [if_neg (by omega)]; exact ⟨Ext.refl _, rfl⟩)
      · rintro ρ w1 hw hcst hfn hk
        clear hw
        simp only [known, List.getD_cons_zero, List.getD_cons_succ, Nat.reduceAdd] at hk
        simp only [List.getD_cons_zero, List.getD_cons_succ, Nat.reduceAdd, flowAt]
        go_simp
        exact ⟨Ext.refl _, by first | rfl | trivial⟩
      · rintro ρ w1 hw hcst hfn hk
        clear hw
        simp only [known, List.getD_cons_zero, List.getD_cons_succ, Nat.reduceAdd] at hk
        simp only [List.getD_cons_zero, List.getD_cons_succ, Nat.reduceAdd, flowAt]
        go_simp
        exact ⟨Ext.refl _, by first | rfl | trivial⟩
      · rintro ρ w1 hw hcst hfn hk
        simp only [known, List.getD_cons_zero, List.getD_cons_succ, Nat.reduceAdd] at hk
        simp only [List.getD_cons_zero, List.getD_cons_succ, Nat.reduceAdd, flowAt]
        go_simp
        exact ⟨Ext.refl _, by first | rfl | rw [hB]⟩
      · rintro ρ w1 hw hcst hfn hk
        simp only [known, List.getD_cons_zero, List.getD_cons_succ, Nat.reduceAdd] at hk
        simp only [List.getD_cons_zero, List.getD_cons_succ, Nat.reduceAdd, flowAt]
        go_simp
        (rw [if_neg (by omega)]; exact ⟨Ext.refl _, rfl⟩)
    intro vs w1 hw hf
    simp only [flowFacts, Nat.reduceAdd] at hf
    obtain ⟨e0, e1, e2, e3, e4, e5, e6, e7, e8, -⟩ := hf
    simp only [List.take_succ_cons, List.take_zero, List.drop_succ_cons, List.drop_zero, putAll, Act.put, Nat.reduceAdd, List.setIfInBounds_toArray, List.set_cons_zero, List.set_cons_succ, e0, e1, e2, e3, e4, e5, e6, e7, e8]
    clear e0 e1 e2 e3 e4 e5 e6 e7 e8
    have hE := (Ext.refl _).drew.trans hw
    clear hw
    go_wp2_with fail
    go_returns
    exact ⟨rfl, hE⟩
end Go.Proofs.YtabljchbchjjcaaGreatDoor
end
