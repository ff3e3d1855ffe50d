/- The text of a board, read again. Plain. No condition. -/
import Derived.Test.YtmohfdfjlgekaaaGreatDoorMg13
import Derived.Test.YtmohfdfjlgekaaaGreatDoorMg15
import Derived.Test.YtmohfdfjlgekaaaGreatDoorNum2
namespace Go.Proofs.YtmohfdfjlgekaaaGreatDoor
set_option linter.unusedVariables false
set_option linter.unusedSimpArgs false
open Go Go.RowKit
def joinL (ls : List ByteArray) : ByteArray := ofL (ls.flatMap fun s => s.data.toList)
theorem joinL_snoc (ls : List ByteArray) (x : ByteArray) : joinL (ls ++ [x]) = joinL ls ++ x := by
  apply ba_list
  rw [ByteArray.data_append, Array.toList_append]
  show (ls ++ [x]).flatMap _ = _
  rw [List.flatMap_append]
  simp [joinL, ofL]
theorem joinL_nil : joinL [] = ⟨#[]⟩ := rfl
theorem joinL_size (ls : List ByteArray) (b : Nat) (h : ∀ s ∈ ls, s.size ≤ b) : (joinL ls).size ≤ ls.length * b := by
  unfold joinL
  rw [ofL_size]
  induction ls with
  | nil => simp
  | cons x l ih =>
    have h1 := ih (fun s hs => h s (List.mem_cons_of_mem _ hs))
    have h2 := h x (List.mem_cons_self ..)
    rw [List.flatMap_cons, List.length_append, List.length_cons, Nat.add_mul, list_len]
    omega
theorem rows_joinK (m : Nat) (s : ByteArray) (hs : s.size = m * m) : ∀ k, k ≤ m → joinL (rowsL m s k) = s.extract 0 (k * m)
  | 0, _ => by
    apply ba_list
    rw [extract_list]
    simp [joinL, rowsL, ofL]
  | k + 1, hk => by
    have hb : k * m + m ≤ s.size := by
      rw [hs]
      have : (k + 1) * m ≤ m * m := Nat.mul_le_mul_right m hk
      rw [Nat.add_mul, Nat.one_mul] at this
      omega
    rw [rowsL_succ, joinL_snoc, rows_joinK m s hs k (by omega)]
    apply ba_list
    rw [ByteArray.data_append, Array.toList_append]
    unfold rowAt
    rw [extract_list, extract_list, extract_list, Nat.add_mul, Nat.one_mul, List.drop_zero, Nat.sub_zero, Nat.sub_zero, show k * m + m - k * m = m by omega, ← List.take_add]
theorem rows_join (m : Nat) (s : ByteArray) (hs : s.size = m * m) : joinL (rowsL m s m) = s := by
  rw [rows_joinK m s hs m (Nat.le_refl _), ← hs]
  exact ByteArray.extract_zero_size
theorem line_no (m : Nat) (p c : ByteArray) (h : okB m p c = true) : ∀ x ∈ linesL m p c, ∀ u ∈ x.data.toList, u ≠ 10 := by
  obtain ⟨h1, h2, -⟩ := okB_true h
  have h3 : allB premB p = true ∧ allB cellB c = true := by
    simp only [okB, Bool.and_eq_true] at h
    exact h.2.2.2
  have hsub : ∀ (s : ByteArray) (g : Int → Bool), allB g s = true → g 10 = false → ∀ k, ∀ u ∈ (rowAt m s k).data.toList, u ≠ 10 := by
    intro s g hg h10 k u hu e
    subst e
    unfold rowAt at hu
    rw [extract_list] at hu
    have := List.all_eq_true.1 hg _ (List.mem_of_mem_drop (List.mem_of_mem_take hu))
    have h11 : g ((10 : UInt8).toNat : Int) = g 10 := rfl
    rw [h11, h10] at this
    exact absurd this (by decide)
  intro x hx
  unfold linesL at hx
  rcases List.mem_cons.1 hx with rfl | hx
  · intro u hu e
    subst e
    have hd := (dec_facts m (by omega)).2.1 10
    unfold headS at hu
    rw [ByteArray.data_append, Array.toList_append] at hu
    rcases List.mem_append.1 hu with hu | hu
    · exact absurd hu (by decide)
    · have := hd hu
      exact absurd this.1 (by decide)
  · rcases List.mem_append.1 hx with hx | hx
    · obtain ⟨k, _, rfl⟩ := List.mem_map.1 hx
      exact hsub p premB h3.1 (by decide) k
    · obtain ⟨k, _, rfl⟩ := List.mem_map.1 hx
      exact hsub c cellB h3.2 (by decide) k
theorem lines_of {m : Nat} {p c s : ByteArray} (h : okB m p c = true) (hs : textB m p c = s) : splitC 10 s = linesL m p c ++ [⟨#[]⟩] := by
  rw [← hs]
  exact splitC_unl 10 (linesL m p c) (line_no m p c h)
theorem head_split (m : Nat) (h : m < 100) : splitC 32 (headS m) = [⟨#[98, 111, 97, 114, 100]⟩, decS m] := by
  have e : headS m = ofL ([98, 111, 97, 114, 100] ++ 32 :: (decS m).data.toList) := by
    apply ba_list
    unfold headS
    rw [ByteArray.data_append, Array.toList_append]
    rfl
  rw [e, splitC_line 32 _ _ (by decide), ofL_of, splitC_none 32 (decS m) (fun u hu e => by
    have := (dec_facts m h).2.1 u hu
    rw [e] at this
    exact absurd this.1 (by decide))]
  rfl
theorem head_trim (m : Nat) : Lib.trimPrefix (headS m).data.toList [98, 111, 97, 114, 100, 32] = (decS m).data.toList := by
  have e : (headS m).data.toList = [98, 111, 97, 114, 100, 32] ++ (decS m).data.toList := by
    unfold headS
    rw [ByteArray.data_append, Array.toList_append]
  unfold Lib.trimPrefix Lib.hasPrefix
  rw [e]
  simp [List.isPrefixOf]
theorem lines_prem (m : Nat) (p c : ByteArray) (h : okB m p c = true) (r : List ByteArray) : joinL (((linesL m p c ++ r).drop 1).take m) = p := by
  obtain ⟨h1, h2, h3, h4⟩ := okB_true h
  have hp2 : p.size = m * m := by have : ((m * m : Nat) : Int) = (m : Int) * m := by push_cast; rfl
                                  omega
  have e : ((linesL m p c ++ r).drop 1).take m = rowsL m p m := by
    unfold linesL
    rw [List.cons_append, List.drop_succ_cons, List.drop_zero, List.append_assoc, List.take_left' (rowsL_length m p m)]
  rw [e, rows_join m p hp2]
theorem lines_cell (m : Nat) (p c : ByteArray) (h : okB m p c = true) (r : List ByteArray) : joinL (((linesL m p c ++ r).drop (1 + m)).take m) = c := by
  obtain ⟨h1, h2, h3, h4⟩ := okB_true h
  have hc2 : c.size = m * m := by have : ((m * m : Nat) : Int) = (m : Int) * m := by push_cast; rfl
                                  omega
  have e : ((linesL m p c ++ r).drop (1 + m)).take m = rowsL m c m := by
    unfold linesL
    rw [List.cons_append, Nat.add_comm 1 m, List.drop_succ_cons, List.append_assoc, List.drop_left' (rowsL_length m p m), List.take_left' (rowsL_length m c m)]
  rw [e, rows_join m c hc2]
theorem text_inj {m m' : Nat} {p c p' c' : ByteArray} (h : okB m p c = true) (h' : okB m' p' c' = true) (e : textB m p c = textB m' p' c') : m = m' ∧ p = p' ∧ c = c' := by
  have e1 := lines_of h rfl
  have e2 := lines_of h' e.symm
  rw [e1] at e2
  have hl := List.append_cancel_right e2
  have hm : m = m' := by
    have := congrArg List.length hl
    rw [lines_len, lines_len] at this
    omega
  subst hm
  refine ⟨rfl, ?_, ?_⟩
  · rw [← lines_prem m p c h [], ← lines_prem m p' c' h' [], hl]
  · rw [← lines_cell m p c h [], ← lines_cell m p' c' h' [], hl]
open Classical in
/-- What the reading of a board returns. -/
noncomputable def readV (s : ByteArray) : Value := if h : ∃ (m : Nat) (p c : ByteArray), okB m p c = true ∧ textB m p c = s then .tuple #[boardV (h.choose : Int) h.choose_spec.choose h.choose_spec.choose_spec.choose, .bool true] else .tuple #[boardV 0 ⟨#[]⟩ ⟨#[]⟩, .bool false]
theorem readV_yes {m : Nat} {p c s : ByteArray} (h : okB m p c = true) (e : textB m p c = s) : readV s = .tuple #[boardV m p c, .bool true] := by
  have hx : ∃ (m : Nat) (p c : ByteArray), okB m p c = true ∧ textB m p c = s := ⟨m, p, c, h, e⟩
  unfold readV
  rw [dif_pos hx]
  have q := hx.choose_spec.choose_spec.choose_spec
  obtain ⟨e1, e2, e3⟩ := text_inj q.1 h (q.2.trans e.symm)
  have key : ∀ (a : Nat) (b d : ByteArray), a = m → b = p → d = c → (Value.tuple #[boardV (a : Int) b d, .bool true]) = .tuple #[boardV m p c, .bool true] := by
    rintro a b d rfl rfl rfl
    rfl
  exact key _ _ _ e1 e2 e3
theorem readV_no {s : ByteArray} (h : ∀ (m : Nat) (p c : ByteArray), okB m p c = true → textB m p c = s → False) : readV s = .tuple #[boardV 0 ⟨#[]⟩ ⟨#[]⟩, .bool false] := by
  unfold readV
  rw [dif_neg]
  rintro ⟨m, p, c, h1, h2⟩
  exact h m p c h1 h2
theorem readV_cases (s : ByteArray) : (∃ (m : Nat) (p c : ByteArray), okB m p c = true ∧ textB m p c = s ∧ readV s = .tuple #[boardV m p c, .bool true]) ∨ ((∀ (m : Nat) (p c : ByteArray), okB m p c = true → textB m p c = s → False) ∧ readV s = .tuple #[boardV 0 ⟨#[]⟩ ⟨#[]⟩, .bool false]) := by
  by_cases hx : ∃ (m : Nat) (p c : ByteArray), okB m p c = true ∧ textB m p c = s
  · obtain ⟨m, p, c, h1, h2⟩ := hx
    exact .inl ⟨m, p, c, h1, h2, readV_yes h1 h2⟩
  · exact .inr ⟨fun m p c h1 h2 => hx ⟨m, p, c, h1, h2⟩, readV_no fun m p c h1 h2 => hx ⟨m, p, c, h1, h2⟩⟩
end Go.Proofs.YtmohfdfjlgekaaaGreatDoor
