/- Boards read from texts, by both. Conditions stand at each. -/
import Derived.Test.YtmohfdfjlgekaaaGreatDoorCh11w
import Derived.Test.YtmohfdfjlgekaaaGreatDoorCh11u
import Derived.Test.YtmohfdfjlgekaaaGreatDoorMg4
import Derived.Test.YtmohfdfjlgekaaaGreatDoorMg5
namespace Go.Proofs.YtmohfdfjlgekaaaGreatDoor
set_option linter.unusedVariables false
set_option linter.unusedSimpArgs false
open Go Go.RowKit
def tot (l : List ByteArray) : Nat := (l.map ByteArray.size).sum
theorem tot_append (l r : List ByteArray) : tot (l ++ r) = tot l + tot r := by simp [tot]
theorem joinL_tot (l : List ByteArray) : (joinL l).size = tot l := by
  unfold joinL
  rw [ofL_size]
  induction l with
  | nil => rfl
  | cons x l ih =>
    rw [List.flatMap_cons, List.length_append, ih, list_len]
    rfl
theorem tot_cut (c : UInt8) (s : ByteArray) : ∀ k, k ≤ s.size → tot (cutC c s k).1 ≤ (cutC c s k).2
  | 0, _ => by simp [cutC, tot]
  | k + 1, hk => by
    have ih := tot_cut c s k (by omega)
    have hle := (cutC_le c s k).1
    unfold cutC
    split
    · rw [tot_append]
      have : tot [s.extract (cutC c s k).2 k] = k - (cutC c s k).2 := by
        simp only [tot, List.map_cons, List.map_nil, List.sum_cons, List.sum_nil, ByteArray.size_extract]
        omega
      simp only [this]
      omega
    · exact ih
theorem tot_split (c : UInt8) (s : ByteArray) : tot (splitC c s) ≤ s.size := by
  have h1 := tot_cut c s s.size (Nat.le_refl _)
  have h2 := (cutC_le c s s.size).1
  unfold splitC
  rw [tot_append]
  have : tot [s.extract (cutC c s s.size).2 s.size] = s.size - (cutC c s s.size).2 := by
    simp only [tot, List.map_cons, List.map_nil, List.sum_cons, List.sum_nil, ByteArray.size_extract]
    omega
  omega
theorem tot_drop (l : List ByteArray) (k : Nat) : tot (l.drop k) ≤ tot l := by
  have := congrArg tot (List.take_append_drop k l)
  rw [tot_append] at this
  omega
theorem tot_take (l : List ByteArray) (k : Nat) : tot (l.take k) ≤ tot l := by
  have := congrArg tot (List.take_append_drop k l)
  rw [tot_append] at this
  omega
theorem tot_mem {l : List ByteArray} {x : ByteArray} (h : x ∈ l) : x.size ≤ tot l := by
  obtain ⟨i, hi, rfl⟩ := List.getElem_of_mem h
  have h1 := tot_drop l i
  have h2 := tot_take (l.drop i) 1
  have h3 : (l.drop i).take 1 = [l[i]] := by
    rw [List.drop_eq_getElem_cons hi]
    rfl
  rw [h3] at h2
  have : tot [l[i]] = l[i].size := by simp [tot]
  omega
theorem join_empty (l : List ByteArray) : (⟨(Lib.join (l.map (·.data.toList)) (⟨#[]⟩ : ByteArray).data.toList).toArray⟩ : ByteArray) = joinL l := by
  apply ba_list
  show Lib.join (l.map (·.data.toList)) [] = l.flatMap fun s => s.data.toList
  induction l with
  | nil => rfl
  | cons x l ih =>
    rw [List.flatMap_cons, ← ih]
    cases l <;> simp [Lib.join, List.intercalate, List.intersperse]
/-- A text that ends with the end of a line. -/
theorem text_end {m : Nat} {p c s : ByteArray} (hs : textB m p c = s) : ∃ X : List UInt8, s.data.toList = X ++ [10] := by
  rw [← hs]
  show ∃ X, (linesL m p c).flatMap nl = X ++ [10]
  have hne : linesL m p c ≠ [] := by unfold linesL; simp
  obtain ⟨l, x, e⟩ : ∃ l x, linesL m p c = l ++ [x] := ⟨_, _, (List.dropLast_concat_getLast hne).symm⟩
  rw [e, List.flatMap_append]
  exact ⟨l.flatMap nl ++ x.data.toList, by simp [nl]⟩
theorem suffix_yes (X : List UInt8) : Lib.hasSuffix (X ++ [10]) [10] = true ∧ Lib.trimSuffix (X ++ [10]) [10] = X := by
  have h : Lib.hasSuffix (X ++ [10]) [10] = true := by
    unfold Lib.hasSuffix
    rw [List.isSuffixOf_iff_suffix]
    exact ⟨X, rfl⟩
  refine ⟨h, ?_⟩
  unfold Lib.trimSuffix
  rw [h, if_pos rfl]
  simp
theorem lines_body {m : Nat} {p c s : ByteArray} (h : okB m p c = true) (hs : textB m p c = s) : s.size ≠ 0 ∧ Lib.hasSuffix s.data.toList [10] = true ∧ splitC 10 ⟨(Lib.trimSuffix s.data.toList [10]).toArray⟩ = linesL m p c := by
  obtain ⟨X, e⟩ := text_end hs
  obtain ⟨h1, h2⟩ := suffix_yes X
  refine ⟨?_, by rw [e]; exact h1, ?_⟩
  · have := congrArg List.length e
    rw [list_len, List.length_append] at this
    simp at this
    omega
  · rw [e, h2]
    have h3 := lines_of h hs
    have h4 : s = ofL ((ofL X).data.toList ++ [10]) := by rw [← ofL_of s, e]; rfl
    rw [h4, splitC_snoc] at h3
    exact List.append_cancel_right h3
def RetLn (s : ByteArray) (w : World) (e : Ending) (w' : World) : Prop := ∃ (a : Option Addr) (c : Nat) (L : List ByteArray) (ok : Bool), e = .returned (.tuple #[.slice a L.length c, .bool ok]) ∧ L.length ≤ c ∧ (0 < L.length → ∃ q, a = some ⟨q, 0, none⟩ ∧ Rq w' q L) ∧ Ext w w' ∧ tot L ≤ s.size ∧ L.length ≤ s.size + 1 ∧
  ∀ (m : Nat) (p c : ByteArray), okB m p c = true → textB m p c = s → ok = true ∧ L = linesL m p c
theorem Split_10 (s : ByteArray) (w : World) (hs : s.size ≤ 1048576) (hM : MaxAt w) : Calls Tryz.prog 31 #[.string s, .string ⟨#[10]⟩] w fun e w' => e = .returned (.slice (some ⟨w.heap.size, 0, none⟩) (splitC 10 s).length (splitC 10 s).length) ∧ Rq w' w.heap.size (splitC 10 s) ∧ Ext w w' := by
  obtain ⟨m, hm⟩ := hM
  refine (Tryz.strings_Split s ⟨#[10]⟩ m w (by omega) hm (Nat.le_refl 1)).mono ?_
  rintro e w' ⟨rfl, rfl⟩
  rw [splitC_count, splitC_eq]
  refine ⟨rfl, ⟨fun j u hj => ⟨_, _, rfl, ?_⟩, by simp⟩, (Ext.refl w).alloc _⟩
  rw [Nat.zero_add, cell_of_row _ w.heap.size j _ 9 (0, 0) (heap_alloc_new w _)]
  simpa [strsV] using hj
set_option maxHeartbeats 800000 in
theorem linesOf_any (s : ByteArray) (w : World) (hs : s.size ≤ 1048576) (hM : MaxAt w) : Calls Tryz.prog 48 #[.string s] w (RetLn s w) := by
  have HLB := hid (fun m p c h e => @lines_body m p c s h e)
  by_cases hse : s.size = 0
  · have hemp := ba_list0 hse
    subst hemp
    go_enter Tryz.func48, Tryz.ntmps48
    go_wp2_with fail
    go_returns
    exact ⟨_, 0, [], true, rfl, by simp, (fun h => absurd h (by simp)), (Ext.refl w).alloc _, by simp [tot], by simp, fun m p c h e => absurd rfl (HLB.out m p c h e).1⟩
  have hne : s.toList.isEmpty = false := by
    rw [← Bool.not_eq_true, List.isEmpty_iff]
    intro e
    rw [Lib.toList_data] at e
    have : s.data.toList.length = 0 := by rw [e]; rfl
    rw [Array.length_toList] at this
    exact hse this
  have HT := hid (fun w' => Tryz.strings_CutSuffix s ⟨#[10]⟩ w' (by omega))
  obtain ⟨T, hT⟩ : ∃ T : ByteArray, (⟨(Lib.trimSuffix s.data.toList [10]).toArray⟩ : ByteArray) = T := ⟨_, rfl⟩
  have hTs : T.size ≤ s.size := by
    rw [← hT]
    show (Lib.trimSuffix s.data.toList [10]).toArray.size ≤ _
    rw [List.size_toArray]
    unfold Lib.trimSuffix
    split
    · rw [List.length_take, list_len]; omega
    · rw [list_len]; omega
  obtain ⟨ok, hok⟩ : ∃ b, Lib.hasSuffix s.data.toList [10] = b := ⟨_, rfl⟩
  have HT2 : Hid (∀ w, Calls Tryz.prog 88 #[.string s, .string ⟨#[10]⟩] w (Same (.tuple #[.string T, .bool ok]) w)) := hid (fun w => (HT.out w).mono (by rintro e w' ⟨rfl, rfl⟩; exact ⟨by rw [← hT, ← hok], rfl⟩))
  rw [hT, hok] at HLB
  have HS := hid (fun w' h => Split_10 T w' (by omega) h)
  have HTT := hid (tot_split 10 T)
  have HTL := hid (splitC_length_le 10 T)
  have HM := hid hM
  clear hT hok HT hM
  go_enter Tryz.func48, Tryz.ntmps48
  go_wp2_with fail
  refine (HT2.out _).mono ?_
  rintro e w1 ⟨rfl, rfl⟩
  go_wp2_with fail
  refine (HS.out _ HM.out).mono ?_
  rintro e w2 ⟨rfl, hr, hx⟩
  have HR := hid hr
  clear hr
  go_wp2_with fail
  go_returns
  exact ⟨_, _, splitC 10 T, ok, rfl, Nat.le_refl _, fun _ => ⟨_, rfl, HR.out⟩, hx, Nat.le_trans HTT.out hTs, by have := HTL.out; omega, fun m p c h e => (HLB.out m p c h e).2⟩
end Go.Proofs.YtmohfdfjlgekaaaGreatDoor
