/- Setting a square changes this square alone. Plain. Conditions stand at each. -/
import Derived.Test.YtmohfdfjlgekaaaDoorCh11h
namespace Go.Proofs.YtmohfdfjlgekaaaDoor
set_option linter.unusedVariables false
set_option linter.unusedSimpArgs false
open Go Go.RowKit
theorem bAt_setS (c : ByteArray) (k j : Nat) (x : Int) (hk : k < c.size) : bAt (setS c k x) j = if j = k then UInt8.ofNat x.toNat else bAt c j := by
  have hk' : k < c.data.toList.length := by simpa using hk
  unfold bAt setS
  simp only [List.getD_eq_getElem?_getD]
  by_cases e : j = k
  · subst e
    rw [if_pos rfl, List.getElem?_set_self hk']
    rfl
  · rw [if_neg e, List.getElem?_set_ne (Ne.symm e)]
theorem setS_same (c : ByteArray) (k : Nat) (x : Int) (hk : k < c.size) : setS (setS c k x) k ((bAt c k).toNat : Int) = c := by
  have hk' : k < c.data.toList.length := by simpa using hk
  unfold setS
  simp only [List.set_set]
  have e : UInt8.ofNat ((bAt c k).toNat : Int).toNat = c.data.toList[k] := by
    unfold bAt
    rw [List.getD_eq_getElem?_getD, List.getElem?_eq_getElem hk']
    simp
  rw [e, List.set_getElem_self]
theorem sq_inj {n r c i j : Int} (hr : inRC n r c = true) (hi : inRC n i j = true) (h : r * n + c = i * n + j) : r = i ∧ c = j := by
  obtain ⟨a0, a1, a2, a3⟩ := inRC_true hr
  obtain ⟨b0, b1, b2, b3⟩ := inRC_true hi
  have key : ∀ p q s t : Int, 0 ≤ s → s < n → 0 ≤ t → t < n → p < q → p * n + s < q * n + t := by
    intro p q s t s0 s1 t0 t1 hpq
    have : (p + 1) * n ≤ q * n := Int.mul_le_mul_of_nonneg_right (by omega) (by omega)
    rw [Int.add_mul, Int.one_mul] at this
    omega
  rcases Int.lt_trichotomy r i with h1 | h1 | h1
  · have := key r i c j a2 a3 b2 b3 h1; omega
  · subst h1; omega
  · have := key i r j c b2 b3 a2 a3 h1; omega
theorem sqAt_bAt {n r c : Int} {s : ByteArray} (h : inRC n r c = true) : sqAt n s r c = ((bAt s (r * n + c).toNat).toNat : Int) := by
  unfold sqAt
  rw [if_pos h]
theorem sqAt_setS {n i j r k x : Int} {c : ByteArray} (h1 : 5 ≤ n) (h2 : n ≤ 15) (hc : (c.size : Int) = n * n) (hi : inRC n i j = true) (hr : inRC n r k = true) (hx0 : 0 ≤ x) (hx1 : x < 256) :
    sqAt n (setS c (i * n + j).toNat x) r k = if r = i ∧ k = j then x else sqAt n c r k := by
  obtain ⟨_, _, e3, e4, e5⟩ := sq_index h1 h2 hc hi
  obtain ⟨_, _, f3, f4, f5⟩ := sq_index h1 h2 hc hr
  rw [sqAt_bAt hr, sqAt_bAt hr, bAt_setS c _ _ _ e5]
  by_cases e : r = i ∧ k = j
  · obtain ⟨rfl, rfl⟩ := e
    rw [if_pos rfl, if_pos ⟨rfl, rfl⟩]
    simp
    omega
  · rw [if_neg e, if_neg]
    intro q
    exact e (sq_inj hr hi (by omega))
theorem okB_setS {n i j x : Int} {p c : ByteArray} (h : okB n p c = true) (hi : inRC n i j = true) (hx : cellB x = true) (hx0 : 0 ≤ x) (hx1 : x < 256) : okB n p (setS c (i * n + j).toNat x) = true := by
  have hsz : (setS c (i * n + j).toNat x).size = c.size := by
    show (c.data.toList.set _ _).toArray.size = c.data.size
    simp
  unfold okB at h ⊢
  simp only [Bool.and_eq_true, decide_eq_true_eq] at h ⊢
  obtain ⟨a, b, d, e, f⟩ := h
  refine ⟨a, b, by rw [hsz]; exact d, e, ?_⟩
  unfold allB setS at *
  rw [List.all_eq_true] at f ⊢
  intro y hy
  rcases List.mem_or_eq_of_mem_set hy with hy | rfl
  · exact f y hy
  · have : ((UInt8.ofNat x.toNat).toNat : Int) = x := by simp; omega
    rw [this]; exact hx
theorem cellB_sqAt {n i j : Int} {p c : ByteArray} (h : okB n p c = true) (hi : inRC n i j = true) : cellB (sqAt n c i j) = true := by
  obtain ⟨h1, h2, h3, h4⟩ := okB_true h
  obtain ⟨_, _, e3, e4, e5⟩ := sq_index h1 h2 h4 hi
  rw [sqAt_bAt hi]
  have f : allB cellB c = true := by
    simp only [okB, Bool.and_eq_true] at h
    exact h.2.2.2.2
  exact List.all_eq_true.1 f _ (by
    unfold bAt
    rw [List.getD_eq_getElem?_getD, List.getElem?_eq_getElem (by simpa using e5)]
    exact List.getElem_mem _)
theorem setCell_back {n i j x : Int} {p c : ByteArray} (h : okB n p c = true) (hi : inRC n i j = true) (hx : cellB x = true) (hx0 : 0 ≤ x) (hx1 : x < 256) :
    setCellV n p (setS c (i * n + j).toNat x) i j (sqAt n c i j) = .tuple #[boardV n p c, .int .i64 0] := by
  obtain ⟨h1, h2, h3, h4⟩ := okB_true h
  obtain ⟨_, _, e3, e4, e5⟩ := sq_index h1 h2 h4 hi
  unfold setCellV
  rw [if_pos (okB_setS h hi hx hx0 hx1), if_pos hi, if_pos (cellB_sqAt h hi), sqAt_bAt hi, setS_same c _ x e5]
end Go.Proofs.YtmohfdfjlgekaaaDoor
