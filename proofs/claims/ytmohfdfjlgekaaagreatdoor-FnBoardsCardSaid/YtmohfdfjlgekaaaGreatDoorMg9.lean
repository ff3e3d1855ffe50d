/- Several texts in one: Ch15d, BwL. Conditions: see each. -/
import Derived.Test.YtmohfdfjlgekaaaGreatDoorCh15c
import Derived.Test.YtmohfdfjlgekaaaGreatDoorCh11r
import Derived.Shelf.GgClosure.StringsIndexFunc
import Derived.Test.YtmohfdfjlgekaaaGreatDoorCh11v
import Derived.Test.YtmohfdfjlgekaaaGreatDoorMg7
section
namespace Go.Proofs.YtmohfdfjlgekaaaGreatDoor
set_option linter.unusedVariables false
set_option linter.unusedSimpArgs false
open Go Go.RowKit
theorem okB_all {n : Int} {p c : ByteArray} (h : okB n p c = true) : 5 ≤ n ∧ n ≤ 15 ∧ (p.size : Int) = n * n ∧ (c.size : Int) = n * n ∧ allB cellB c = true := by
  simp only [okB, Bool.and_eq_true, decide_eq_true_eq] at h
  have := inB_true h.1
  exact ⟨this.1, this.2, h.2.1, h.2.2.1, h.2.2.2.2⟩
def litB (cs : ByteArray) (i : Nat) : Bool := bAt cs i != 46
def firstI (cs : ByteArray) : Nat := cs.data.toList.findIdx (· != 46)
def visJ (n : Int) (cs : ByteArray) : Nat → Bool := vis n (letF n cs) cs.size (fun _ => false) ((firstI cs : Int).tdiv n) ((firstI cs : Int).tmod n)
def joinS (n : Int) (cs : ByteArray) : Bool := (List.range cs.size).all fun i => !litB cs i || visJ n cs i
def joinB (n : Int) (p cs : ByteArray) : Bool := okB n p cs && (blankS cs || joinS n cs)
theorem bAt_list (cs : ByteArray) : cs.data.toList = (List.range cs.size).map (bAt cs) := by
  apply List.ext_getElem
  · simp
  · intro i h1 h2
    have h3 : i < cs.size := by simpa using h1
    simp only [List.getElem_map, List.getElem_range]
    rw [← bAt_eq cs i h3]
    rfl
theorem noDot_cnt (cs : ByteArray) : (noDot cs).size = cnt cs.size (litB cs) := by
  have : (noDot cs).size = (cs.data.toList.filter (· != 46)).length := by simp [noDot, ByteArray.size]
  rw [this, bAt_list, ← List.countP_eq_length_filter, List.countP_map]
  rfl
theorem blank_none {cs : ByteArray} (h : blankS cs = true) (i : Nat) (hi : i < cs.size) : litB cs i = false := by
  rw [blankS_eq, List.isEmpty_iff, List.filter_eq_nil_iff] at h
  have := h (bAt cs i) (by rw [bAt_list]; exact List.mem_map.2 ⟨i, by simpa using hi, rfl⟩)
  simpa [litB] using this
theorem first_some {cs : ByteArray} (h : blankS cs = false) : firstI cs < cs.size ∧ litB cs (firstI cs) = true ∧ ∀ j, j < firstI cs → litB cs j = false := by
  have hex : ∃ x ∈ cs.data.toList, (x != 46) = true := by
    apply Classical.byContradiction
    intro hn
    have : blankS cs = true := by
      rw [blankS_eq, List.isEmpty_iff, List.filter_eq_nil_iff]
      intro x hx hq
      exact hn ⟨x, hx, hq⟩
    rw [this] at h
    cases h
  have hlt : firstI cs < cs.data.toList.length := List.findIdx_lt_length.2 hex
  have hsz : cs.data.toList.length = cs.size := by simp
  have key := (List.findIdx_eq (p := fun x : UInt8 => x != 46) hlt).1 rfl
  have gt : ∀ j (hj : j < cs.data.toList.length), cs.data.toList[j] = bAt cs j := by
    intro j hj
    rw [← bAt_eq cs j (by omega)]
    rfl
  refine ⟨by omega, ?_, ?_⟩
  · have := key.1
    rw [gt] at this
    exact this
  · intro j hj
    have := key.2 j hj
    rw [gt] at this
    exact this
theorem decode_low (s : ByteArray) (i : Nat) (hi : i < s.size) (h : (bAt s i).toNat < 128) : Utf8.decode s i = ((bAt s i).toNat, 1) := by
  have e : s.get! i = bAt s i := by
    rw [← bAt_eq s i hi]
    simp [ByteArray.get!, ByteArray.getElem_eq_getElem_data, hi]
  have e0 : (s.get! (i + 0)).toNat < 128 := by rw [Nat.add_zero, e]; exact h
  unfold Utf8.decode
  simp only [Nat.add_zero, e] at e0 ⊢
  rw [if_pos e0]
theorem idx_first {cs : ByteArray} {k : Nat} (hl : ∀ i, i < cs.size → (bAt cs i).toNat < 128) (hk : k < cs.size) (h1 : litB cs k = true) (h2 : ∀ j, j < k → litB cs j = false) :
    ∀ f pos, pos ≤ k → k < pos + f → Lib.idxFuncFrom (fun x => x != 46) true cs f pos = (k : Int) := by
  intro f
  induction f with
  | zero => intro pos a b; omega
  | succ f ih =>
    intro pos a b
    have hp : pos < cs.size := by omega
    rw [Lib.idxFuncFrom, if_pos hp, decode_low cs pos hp (hl pos hp)]
    by_cases e : pos = k
    · subst e
      have : ((bAt cs pos).toNat != 46) = true := by
        simp only [litB, bne_iff_ne, ne_eq] at h1 ⊢
        exact fun q => h1 (UInt8.toNat_inj.1 (by simpa using q))
      simp [this]
    · have h3 := h2 pos (by omega)
      have : ((bAt cs pos).toNat != 46) = false := by
        simp only [litB, bne_eq_false_iff_eq] at h3
        rw [h3]; rfl
      simp only [this]
      rw [if_neg (by simp)]
      exact ih (pos + 1) (by omega) (by omega)
theorem cell_low {cs : ByteArray} (ha : allB cellB cs = true) (i : Nat) (hi : i < cs.size) : (bAt cs i).toNat < 128 := by
  have := (List.all_eq_true.1 ha) (bAt cs i) (by rw [bAt_list]; exact List.mem_map.2 ⟨i, by simpa using hi, rfl⟩)
  simp only [cellB, smallB, capB, Bool.or_eq_true, decide_eq_true_eq, inB, Bool.and_eq_true] at this
  omega
theorem idxFunc_first {cs : ByteArray} (ha : allB cellB cs = true) (hb : blankS cs = false) : Lib.idxFunc (fun x => x != 46) true cs = (firstI cs : Int) := by
  obtain ⟨h1, h2, h3⟩ := first_some hb
  exact idx_first (cell_low ha) h1 h2 h3 cs.size 0 (by omega) (by omega)
theorem letF_lit {n : Int} {cs : ByteArray} {r c : Int} (h : letF n cs r c = true) : litB cs (mixN n r c) = true := by
  have hin := letF_in h
  have e : sqAt n cs r c = ((bAt cs (mixN n r c)).toNat : Int) := by rw [sqAt, if_pos hin]; rfl
  unfold letF letB at h
  rw [e] at h
  simp only [Bool.and_eq_true, decide_eq_true_eq] at h
  simp only [litB, bne_iff_ne, ne_eq]
  intro q
  rw [q] at h
  exact h.2 rfl
/-- The count tells whether all letters are marked. -/
theorem joinS_cnt (n : Int) (cs : ByteArray) : decide (cnt cs.size (visJ n cs) = (noDot cs).size) = joinS n cs := by
  rw [noDot_cnt]
  have h := cnt_eq (N := cs.size) (S := visJ n cs) (T := litB cs) (fun i _ hi => vis_sub (T := litB cs) (fun r c hq => letF_lit hq) _ _ _ _ (fun i hi => by cases hi) i hi)
  unfold joinS
  by_cases hq : cnt cs.size (visJ n cs) = cnt cs.size (litB cs)
  · rw [decide_eq_true hq]
    symm
    rw [List.all_eq_true]
    intro i hi
    have hi' : i < cs.size := by simpa using hi
    cases hl : litB cs i
    · rfl
    · rw [h.1 hq i hi' hl]; rfl
  · rw [decide_eq_false hq]
    symm
    apply Bool.eq_false_iff.2
    intro hall
    rw [List.all_eq_true] at hall
    exact hq (h.2 fun i hi hl => by
      have := hall i (by simpa using hi)
      rw [hl] at this
      simpa using this)
theorem mix_div {n : Int} {k : Nat} (h1 : 5 ≤ n) (h2 : n ≤ 15) (hk : (k : Int) < n * n) : 0 ≤ (k : Int).tdiv n ∧ (k : Int).tdiv n < n ∧ 0 ≤ (k : Int).tmod n ∧ (k : Int).tmod n < n ∧ mixN n ((k : Int).tdiv n) ((k : Int).tmod n) = k := by
  rw [Int.tdiv_eq_ediv_of_nonneg (by omega), Int.tmod_eq_emod_of_nonneg (by omega)]
  refine ⟨Int.ediv_nonneg (by omega) (by omega), Int.ediv_lt_of_lt_mul (by omega) hk, Int.emod_nonneg _ (by omega), Int.emod_lt_of_pos _ (by omega), ?_⟩
  unfold mixN
  have := Int.mul_ediv_add_emod (k : Int) n
  rw [Int.mul_comm] at this
  rw [this]
  simp
theorem Wr.bs {w : World} {g N : Nat} {n : Int} (h : Wr w g (List.replicate N (.bool false))) (h1 : 5 ≤ n) (h2 : n ≤ 15) (hN : (N : Int) = n * n) : Bs w g n n (fun _ => false) := by
  refine ⟨h.1, fun r c hr => ?_⟩
  obtain ⟨i0, i1, i2, i3⟩ := inRC_true hr
  have e3 : (r + 1) * n ≤ n * n := Int.mul_le_mul_of_nonneg_right (by omega) (by omega)
  have e1 : 0 ≤ r * n := Int.mul_nonneg i0 (by omega)
  rw [Int.add_mul, Int.one_mul] at e3
  have hlt : mixN n r c < N := by unfold mixN; omega
  exact ⟨h.2.1 _ _ (by simp [hlt]), h.2.2 _ (by simpa using hlt)⟩
end Go.Proofs.YtmohfdfjlgekaaaGreatDoor
end
section
namespace Go.Proofs.YtmohfdfjlgekaaaGreatDoor
set_option linter.unusedVariables false
set_option linter.unusedSimpArgs false
open Go Go.RowKit
theorem bAt_extW {N : Nat} {a b : ByteArray} (ha : a.size = N * N) (hb : b.size = N * N) (h : ∀ i j, i < N → j < N → bAt a (i * N + j) = bAt b (i * N + j)) : a = b := by
  have e : a.data.toList = b.data.toList := by
    have la : a.data.toList.length = N * N := by simpa using ha
    have lb : b.data.toList.length = N * N := by simpa using hb
    apply List.ext_getElem (by rw [la, lb])
    intro k h1 h2
    have hk : k < N * N := by rw [← la]; exact h1
    have hN : 0 < N := by
      rcases Nat.eq_zero_or_pos N with h0 | h0
      · subst h0; simp at hk
      · exact h0
    have := h (k / N) (k % N) (Nat.div_lt_of_lt_mul hk) (Nat.mod_lt _ hN)
    rw [Nat.mul_comm (k / N), Nat.div_add_mod] at this
    unfold bAt at this
    rw [List.getD_eq_getElem?_getD, List.getD_eq_getElem?_getD, List.getElem?_eq_getElem h1, List.getElem?_eq_getElem h2] at this
    exact this
  cases a
  cases b
  congr 1
  exact Array.toList_inj.1 e
theorem bAt_turnW {N : Nat} {s : ByteArray} {i j : Nat} (hi : i < N) (hj : j < N) : bAt (turnS N s) (i * N + j) = bAt s (j * N + i) := turnL_get N s i j hi hj N hi
theorem turn_turnW (N : Nat) (s : ByteArray) (h : s.size = N * N) : turnS N (turnS N s) = s :=
  bAt_extW (turnS_size N _) h fun i j hi hj => by rw [bAt_turnW hi hj, bAt_turnW hj hi]
theorem mem_turn {n : Nat} {c : ByteArray} (hc : c.size = n * n) (hn : 0 < n) : ∀ x ∈ (turnS n c).data.toList, x ∈ c.data.toList := by
  intro x hx
  obtain ⟨t, ht⟩ := List.getElem?_of_mem hx
  have htl : t < (turnS n c).size := by
    have := (List.getElem?_eq_some_iff.1 ht).1
    simpa using this
  rw [at_someC htl] at ht
  have hx2 : bAt (turnS n c) t = x := by simpa using ht
  rw [turnS_size] at htl
  have h1 : t / n < n := Nat.div_lt_of_lt_mul htl
  have h2 : t % n < n := Nat.mod_lt _ hn
  have h3 : t / n * n + t % n = t := by rw [Nat.mul_comm]; exact Nat.div_add_mod t n
  have h4 : bAt (turnS n c) (t / n * n + t % n) = bAt c (t % n * n + t / n) := turnL_get n c (t / n) (t % n) h1 h2 n h1
  rw [h3, hx2] at h4
  have h5 : t % n * n + t / n < c.size := by
    rw [hc]
    have : (t % n + 1) * n ≤ n * n := Nat.mul_le_mul_right n h2
    rw [Nat.add_mul, Nat.one_mul] at this
    omega
  have h6 := at_someC h5
  rw [← h4] at h6
  exact List.mem_of_getElem? h6
theorem okB_turn {m : Nat} {p c : ByteArray} (h : okB m p c = true) : okB m (turnS m p) (turnS m c) = true := by
  obtain ⟨h1, h2, h3, h4⟩ := okB_true h
  have hp2 : p.size = m * m := by have : ((m * m : Nat) : Int) = (m : Int) * m := by push_cast; rfl
                                  omega
  have hc2 : c.size = m * m := by have : ((m * m : Nat) : Int) = (m : Int) * m := by push_cast; rfl
                                  omega
  unfold okB at h ⊢
  simp only [Bool.and_eq_true, decide_eq_true_eq] at h ⊢
  obtain ⟨a1, a2, a3, a4, a5⟩ := h
  refine ⟨a1, by rw [turnS_size]; push_cast; rfl, by rw [turnS_size]; push_cast; rfl, ?_, ?_⟩
  · exact List.all_eq_true.2 fun x hx => List.all_eq_true.1 a4 x (mem_turn hp2 (by omega) x hx)
  · exact List.all_eq_true.2 fun x hx => List.all_eq_true.1 a5 x (mem_turn hc2 (by omega) x hx)
theorem wonL_ok {m : Nat} {p c : ByteArray} (h : okB m p c = true) : wonL m p c = wordsN m c m ++ wordsN m (turnS m c) m := by
  unfold wonL
  rw [h]
  rfl
theorem wonL_turn {m : Nat} {p c : ByteArray} (h : okB m p c = true) : wonL m (turnS m p) (turnS m c) = wordsN m (turnS m c) m ++ wordsN m c m := by
  obtain ⟨h1, h2, h3, h4⟩ := okB_true h
  have hc2 : c.size = m * m := by have : ((m * m : Nat) : Int) = (m : Int) * m := by push_cast; rfl
                                  omega
  rw [wonL_ok (okB_turn h), turn_turnW m c hc2]
theorem cut_no (c : UInt8) (s : ByteArray) : ∀ k, k ≤ s.size → ∀ x ∈ (cutC c s k).1, ∀ j, j < x.size → bAt x j ≠ c
  | 0, _ => by intro x hx; simp [cutC] at hx
  | k + 1, hk => by
    have ih := cut_no c s k (by omega)
    have hno := (cut_pieces c s k (by omega)).2
    have hle := (cutC_le c s k).1
    unfold cutC
    split
    · intro x hx
      simp only [List.mem_append, List.mem_singleton] at hx
      rcases hx with hx | rfl
      · exact ih x hx
      · intro j hj
        rw [ByteArray.size_extract] at hj
        rw [bAt_sub _ _ _ _ (by omega) (by omega)]
        exact hno _ (by omega) (by omega)
    · exact ih
theorem split_no (c : UInt8) (s : ByteArray) : ∀ x ∈ splitC c s, ∀ j, j < x.size → bAt x j ≠ c := by
  have hno := (cut_pieces c s s.size (Nat.le_refl _)).2
  intro x hx
  unfold splitC at hx
  simp only [List.mem_append, List.mem_singleton] at hx
  rcases hx with hx | rfl
  · exact cut_no c s s.size (Nat.le_refl _) x hx
  · intro j hj
    rw [ByteArray.size_extract] at hj
    rw [bAt_sub _ _ _ _ (Nat.le_refl _) (by omega)]
    exact hno _ (by omega) (by omega)
/-- A row of dots has no words. -/
theorem words_dots {s : ByteArray} (h : ∀ j, j < s.size → bAt s j = 46) : wordsP (splitC 46 s) = [] := by
  unfold wordsP
  rw [List.filter_eq_nil_iff.2, List.map_nil]
  intro x hx
  obtain ⟨a, b, h1, h2, rfl⟩ := splitC_sub 46 s x hx
  have h3 := split_no 46 s _ hx
  simp only [decide_eq_true_eq]
  intro h4
  rw [ByteArray.size_extract] at h4
  refine h3 0 (by rw [ByteArray.size_extract]; omega) ?_
  rw [bAt_sub _ _ _ _ h2 (by omega)]
  exact h _ (by omega)
theorem wordsN_dots {n : Nat} {c : ByteArray} (hc : c.size = n * n) (h : ∀ j, j < c.size → bAt c j = 46) : wordsN n c n = [] := by
  unfold wordsN
  rw [List.flatMap_eq_nil_iff]
  intro r hr
  obtain ⟨k, hk, rfl⟩ := List.mem_map.1 hr
  have hk2 := List.mem_range.1 hk
  refine words_dots fun j hj => ?_
  unfold rowAt at hj ⊢
  have : (k + 1) * n ≤ n * n := Nat.mul_le_mul_right n hk2
  rw [Nat.add_mul, Nat.one_mul] at this
  rw [ByteArray.size_extract] at hj
  rw [bAt_sub _ _ _ _ (by omega) (by omega)]
  exact h _ (by omega)
end Go.Proofs.YtmohfdfjlgekaaaGreatDoor
end
