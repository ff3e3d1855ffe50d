/- Boards after plays: plain. -/
import Derived.Test.YtpjmenfnaembcaaDoorCh12i
namespace Go.Proofs.YtpjmenfnaembcaaDoor
set_option linter.unusedVariables false
set_option linter.unusedSimpArgs false
open Go Go.RowKit
/-- The squares' bytes with the first k letters of a play laid. -/
def layL (n : Int) (cs : ByteArray) (r c : Int) (d : Bool) (s : ByteArray) : Nat → ByteArray
  | 0 => cs
  | k + 1 => setS (layL n cs r c d s k) (sqR r d k * n + sqC c d k).toNat (bAt s k).toNat
theorem setS_size (s : ByteArray) (k : Nat) (x : Int) : (setS s k x).size = s.size := by
  show (s.data.toList.set k _).toArray.size = s.data.size
  simp
theorem layL_size (n : Int) (cs : ByteArray) (r c : Int) (d : Bool) (s : ByteArray) (k : Nat) : (layL n cs r c d s k).size = cs.size := by
  induction k with
  | zero => rfl
  | succ k ih => rw [layL, setS_size, ih]
theorem bAt_set (s : ByteArray) (k i : Nat) (u : UInt8) (hk : k < s.size) : bAt (setS s k (u.toNat : Int)) i = if i = k then u else bAt s i := by
  unfold bAt setS
  rw [List.getD_eq_getElem?_getD, List.getD_eq_getElem?_getD, show (⟨(s.data.toList.set k (UInt8.ofNat (u.toNat : Int).toNat)).toArray⟩ : ByteArray).data.toList = s.data.toList.set k u by simp, List.getElem?_set]
  by_cases h : i = k
  · subst h
    have : i < s.data.toList.length := by simpa using hk
    rw [if_pos rfl, if_pos this, if_pos rfl]
    rfl
  · rw [if_neg (Ne.symm h), if_neg h]
theorem idx_eq {N i j a b : Nat} (hj : j < N) (hb : b < N) : i * N + j = a * N + b ↔ i = a ∧ j = b := by
  constructor
  · intro h
    have h1 : (i * N + j) / N = (a * N + b) / N := by rw [h]
    have h2 : (i * N + j) % N = (a * N + b) % N := by rw [h]
    have hN : 0 < N := by omega
    rw [Nat.mul_comm i, Nat.mul_comm a, Nat.mul_add_div hN, Nat.mul_add_div hN, Nat.div_eq_of_lt hj, Nat.div_eq_of_lt hb] at h1
    rw [Nat.mul_comm i, Nat.mul_comm a, Nat.mul_add_mod, Nat.mul_add_mod, Nat.mod_eq_of_lt hj, Nat.mod_eq_of_lt hb] at h2
    exact ⟨by simpa using h1, h2⟩
  · rintro ⟨rfl, rfl⟩
    rfl
theorem idx_lt {N i j : Nat} (hi : i < N) (hj : j < N) : i * N + j < N * N := by
  have : (i + 1) * N ≤ N * N := Nat.mul_le_mul_right N hi
  rw [Nat.add_mul] at this
  omega
theorem bAt_ext {N : Nat} {a b : ByteArray} (ha : a.size = N * N) (hb : b.size = N * N) (h : ∀ i j, i < N → j < N → bAt a (i * N + j) = bAt b (i * N + j)) : a = b := by
  have e : a.data.toList = b.data.toList := by
    have la : a.data.toList.length = N * N := by simpa using ha
    have lb : b.data.toList.length = N * N := by simpa using hb
    apply List.ext_getElem (by rw [la, lb])
    intro k h1 h2
    have hk : k < N * N := by rw [← la]; exact h1
    have hN : 0 < N := by
      rcases Nat.eq_zero_or_pos N with h0 | h0
      · subst h0; simp at hk
      · exact h0
    have := h (k / N) (k % N) (Nat.div_lt_of_lt_mul hk) (Nat.mod_lt _ hN)
    rw [Nat.mul_comm (k / N), Nat.div_add_mod] at this
    unfold bAt at this
    rw [List.getD_eq_getElem?_getD, List.getD_eq_getElem?_getD, List.getElem?_eq_getElem h1, List.getElem?_eq_getElem h2] at this
    exact this
  cases a
  cases b
  congr 1
  exact Array.toList_inj.1 e
theorem bAt_turn {N : Nat} {s : ByteArray} {i j : Nat} (hi : i < N) (hj : j < N) : bAt (turnS N s) (i * N + j) = bAt s (j * N + i) := turnL_get N s i j hi hj N hi
theorem turn_turn (N : Nat) (s : ByteArray) (h : s.size = N * N) : turnS N (turnS N s) = s :=
  bAt_ext (turnS_size N _) h fun i j hi hj => by rw [bAt_turn hi hj, bAt_turn hj hi]
theorem lay_turn (N : Nat) (cs : ByteArray) (r c : Nat) (s : ByteArray) (hc : cs.size = N * N) (hcN : c < N) (k : Nat) (hk : r + k ≤ N) : ∀ i j, i < N → j < N → bAt (layL N cs r c true s k) (i * N + j) = bAt (layL N (turnS N cs) c r false s k) (j * N + i) := by
  induction k with
  | zero =>
    intro i j hi hj
    show bAt cs _ = bAt (turnS N cs) _
    rw [bAt_turn hj hi]
  | succ k ih =>
    intro i j hi hj
    have e1 : (sqR r true k * (N : Int) + sqC c true k).toNat = (r + k) * N + c := by
      show (((r : Int) + (k : Nat)) * (N : Int) + c).toNat = _
      rw [show ((r : Int) + (k : Nat)) * (N : Int) + c = (((r + k) * N + c : Nat) : Int) by push_cast; rfl, Int.toNat_natCast]
    have e2 : (sqR c false k * (N : Int) + sqC r false k).toNat = c * N + (r + k) := by
      show ((c : Int) * (N : Int) + ((r : Int) + (k : Nat))).toNat = _
      rw [show (c : Int) * (N : Int) + ((r : Int) + (k : Nat)) = ((c * N + (r + k) : Nat) : Int) by push_cast; rfl, Int.toNat_natCast]
    rw [layL, layL, e1, e2, bAt_set _ _ _ _ (by rw [layL_size, hc]; exact idx_lt (by omega) hcN), bAt_set _ _ _ _ (by rw [layL_size, turnS_size]; exact idx_lt hcN (by omega)), ih (by omega) i j hi hj]
    have q1 := idx_eq (N := N) (i := i) (j := j) (a := r + k) (b := c) hj hcN
    have q2 := idx_eq (N := N) (i := j) (j := i) (a := c) (b := r + k) hi (by omega)
    by_cases h : i = r + k ∧ j = c
    · rw [if_pos (q1.2 h), if_pos (q2.2 ⟨h.2, h.1⟩)]
    · rw [if_neg (fun e => h (q1.1 e)), if_neg (fun e => h ⟨(q2.1 e).2, (q2.1 e).1⟩)]
/-- Laid on the turned board and turned back. -/
theorem turn_lay (N : Nat) (cs : ByteArray) (r c : Nat) (s : ByteArray) (hc : cs.size = N * N) (hcN : c < N) (k : Nat) (hk : r + k ≤ N) : turnS N (layL N (turnS N cs) c r false s k) = layL N cs r c true s k :=
  bAt_ext (turnS_size N _) (by rw [layL_size, hc]) fun i j hi hj => by rw [bAt_turn hi hj, lay_turn N cs r c s hc hcN k hk i j hi hj]
end Go.Proofs.YtpjmenfnaembcaaDoor
