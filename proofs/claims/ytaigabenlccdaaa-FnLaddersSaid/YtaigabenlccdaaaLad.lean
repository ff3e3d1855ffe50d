/- Ladders: how far words lie from one word, and the least word on the way. Plain. -/
import Derived.Test.YtaigabenlccdaaaCh05h
import Derived.Test.YtaigabenlccdaaaCh10d
namespace Go.Proofs.Ytaigabenlccdaaa
set_option linter.unusedVariables false
set_option linter.unusedSimpArgs false
def nr (l : List ByteArray) (i k : Nat) : Bool := nearB (wAt l i) (wAt l k)
theorem nr_comm (l : List ByteArray) (i k : Nat) : nr l i k = nr l k i := nearB_comm _ _
/-- How far, behind so many rounds; -1: not known. -/
def lad (l : List ByteArray) (b : Nat) : Nat → Nat → Int
  | 0, k => if k = b then 0 else -1
  | d + 1, k => if lad l b d k < 0 ∧ ((List.range l.length).filter fun i => decide (lad l b d i = d)).any (fun i => nr l i k) = true then ((d + 1 : Nat) : Int) else lad l b d k
def lvl (l : List ByteArray) (b d : Nat) : List Nat := (List.range l.length).filter fun i => decide (lad l b d i = d)
theorem lad_succ (l : List ByteArray) (b d k : Nat) : lad l b (d + 1) k = if lad l b d k < 0 ∧ (lvl l b d).any (fun i => nr l i k) = true then ((d + 1 : Nat) : Int) else lad l b d k := rfl
theorem mem_lvl {l : List ByteArray} {b d i : Nat} : i ∈ lvl l b d ↔ i < l.length ∧ lad l b d i = d := by simp [lvl]
theorem lad_le (l : List ByteArray) (b : Nat) : ∀ d k, lad l b d k ≤ d
  | 0, k => by unfold lad; split <;> omega
  | d + 1, k => by have := lad_le l b d k; rw [lad_succ]; split <;> omega
theorem lad_ge (l : List ByteArray) (b : Nat) : ∀ d k, -1 ≤ lad l b d k
  | 0, k => by unfold lad; split <;> omega
  | d + 1, k => by have := lad_ge l b d k; rw [lad_succ]; split <;> omega
theorem lad_keep {l : List ByteArray} {b d k : Nat} (h : 0 ≤ lad l b d k) : lad l b (d + 1) k = lad l b d k := by
  rw [lad_succ, if_neg (by omega)]
theorem lad_later {l : List ByteArray} {b d k : Nat} (h : 0 ≤ lad l b d k) : ∀ e, lad l b (d + e) k = lad l b d k
  | 0 => rfl
  | e + 1 => by
    have := lad_later h e
    rw [← Nat.add_assoc, lad_keep (by omega), this]
theorem lad_at {l : List ByteArray} {b : Nat} : ∀ {d k e : Nat}, lad l b d k = (e : Int) → lad l b e k = (e : Int) ∧ (0 < e → lad l b (e - 1) k < 0 ∧ (lvl l b (e - 1)).any (fun i => nr l i k) = true)
  | 0, k, e, h => by
    have := lad_le l b 0 k
    obtain rfl : e = 0 := by omega
    exact ⟨h, fun h => by omega⟩
  | d + 1, k, e, h => by
    rw [lad_succ] at h
    split at h
    · rename_i hc
      obtain rfl : e = d + 1 := by omega
      refine ⟨by rw [lad_succ, if_pos hc], fun _ => hc⟩
    · exact lad_at h
theorem lvl_nodup (l : List ByteArray) (b d : Nat) : (lvl l b d).Nodup := List.Nodup.sublist List.filter_sublist List.nodup_range
theorem lvl_sorted (l : List ByteArray) (b d : Nat) : (lvl l b d).Pairwise (· < ·) := List.Pairwise.sublist List.filter_sublist List.pairwise_lt_range
theorem lvl_rise {l : List ByteArray} (h : Rise l) (b d : Nat) : Rise ((lvl l b d).map (wAt l)) := by
  unfold Rise
  rw [List.pairwise_map]
  refine List.Pairwise.imp_of_mem ?_ (lvl_sorted l b d)
  intro i j hi hj hij
  exact h.at hij (mem_lvl.1 hj).1
/-- How many are not known. -/
def unk (l : List ByteArray) (b d : Nat) : Nat := ((List.range l.length).filter fun i => decide (lad l b d i < 0)).length
theorem filter_split (p q r : Nat → Bool) : ∀ (L : List Nat), (∀ x ∈ L, p x = (q x || r x)) → (∀ x ∈ L, ¬ (q x = true ∧ r x = true)) → (L.filter p).length = (L.filter q).length + (L.filter r).length
  | [], _, _ => rfl
  | a :: t, h1, h2 => by
    have ih := filter_split p q r t (fun x hx => h1 x (List.mem_cons_of_mem _ hx)) (fun x hx => h2 x (List.mem_cons_of_mem _ hx))
    have e1 := h1 a (List.mem_cons_self ..)
    have e2 := h2 a (List.mem_cons_self ..)
    cases hq : q a <;> cases hr : r a <;> simp [List.filter_cons, e1, hq, hr, ih] <;> first | omega | exact absurd ⟨hq, hr⟩ e2
theorem unk_succ (l : List ByteArray) (b d : Nat) : unk l b d = unk l b (d + 1) + (lvl l b (d + 1)).length := by
  refine filter_split _ _ _ _ (fun x _ => ?_) (fun x _ => ?_)
  · have h1 := lad_le l b d x
    rw [lad_succ]
    split
    · rename_i hc
      simp
      omega
    · rename_i hc
      have : decide (lad l b d x = ((d + 1 : Nat) : Int)) = false := decide_eq_false (by omega)
      rw [this, Bool.or_false]
  · rintro ⟨h1, h2⟩
    simp only [decide_eq_true_eq] at h1 h2
    omega
theorem unk_zero {l : List ByteArray} {b : Nat} (h : b < l.length) : unk l b 0 + 1 ≤ l.length := by
  have h1 := filter_split (fun _ => true) (fun i => decide (lad l b 0 i < 0)) (fun i => decide (i = b)) (List.range l.length) (fun x _ => by unfold lad; split <;> simp_all) (fun x _ => by
    rintro ⟨h1, h2⟩
    simp only [decide_eq_true_eq] at h1 h2
    subst h2
    simp [lad] at h1)
  have h2 : (List.range l.length).filter (fun _ => true) = List.range l.length := List.filter_eq_self.2 (by simp)
  rw [h2, List.length_range] at h1
  have h3 : 0 < ((List.range l.length).filter fun i => decide (i = b)).length := List.length_pos_of_mem (a := b) (by simp [h])
  unfold unk
  omega
theorem lvl_stop {l : List ByteArray} {b d : Nat} (h : lvl l b d = []) : ∀ e k, lad l b (d + e) k = lad l b d k
  | 0, _ => rfl
  | e + 1, k => by
    have hl : lvl l b (d + e) = [] := by
      cases e with
      | zero => exact h
      | succ e =>
        rw [List.eq_nil_iff_forall_not_mem]
        intro i hi
        have h1 := (mem_lvl.1 hi).2
        rw [lvl_stop h (e + 1) i] at h1
        have := lad_le l b d i
        omega
    rw [← Nat.add_assoc, lad_succ, hl, if_neg (by simp), lvl_stop h e k]
theorem lvl_ends {l : List ByteArray} {b : Nat} (hb : b < l.length) : ∃ D, D ≤ l.length ∧ lvl l b D = [] := by
  by_cases hc : ∃ D, D ≤ l.length ∧ lvl l b D = []
  · exact hc
  · exfalso
    have hne : ∀ d, d ≤ l.length → 1 ≤ (lvl l b d).length := fun d hd => by
      rcases Nat.eq_zero_or_pos (lvl l b d).length with h | h
      · exact absurd ⟨d, hd, List.eq_nil_of_length_eq_zero h⟩ hc
      · exact h
    have : ∀ d, d ≤ l.length → unk l b d + d + 1 ≤ l.length := by
      intro d
      induction d with
      | zero => intro _; exact unk_zero hb
      | succ d ih =>
        intro hd
        have h1 := ih (by omega)
        have h2 := unk_succ l b d
        have h3 := hne (d + 1) hd
        omega
    have := this l.length (Nat.le_refl _)
    omega
/-- How far in the end. -/
def far (l : List ByteArray) (b k : Nat) : Int := lad l b l.length k
theorem far_of_stop {l : List ByteArray} {b d : Nat} (hb : b < l.length) (h : lvl l b d = []) (k : Nat) : lad l b d k = far l b k := by
  obtain ⟨D, hD, hl⟩ := lvl_ends hb
  have h1 := lvl_stop hl (l.length - D) k
  rw [show D + (l.length - D) = l.length by omega] at h1
  unfold far
  rcases Nat.le_total d D with hd | hd
  · have h2 := lvl_stop h (D - d) k
    rw [show d + (D - d) = D by omega] at h2
    rw [h1, h2]
  · have h2 := lvl_stop hl (d - D) k
    rw [show D + (d - D) = d by omega] at h2
    rw [h1, h2]
/-- The least word of the level before. -/
def par (l : List ByteArray) (b : Nat) (v : Int) (k : Nat) : Nat := ((lvl l b (v - 1).toNat).find? fun i => nr l i k).getD 0
theorem find_first {p q : Nat → Bool} {n r : Nat} (h : ((List.range n).filter p).find? q = some r) : r < n ∧ p r = true ∧ q r = true ∧ ∀ i, i < r → ¬ (p i = true ∧ q i = true) := by
  rw [List.find?_filter] at h
  obtain ⟨h1, pre, post, h2, h3⟩ := List.find?_eq_some_iff_append.1 h
  simp only [Bool.and_eq_true, decide_eq_true_eq] at h1
  have hr : r ∈ List.range n := by rw [h2]; simp
  refine ⟨List.mem_range.1 hr, h1.1, h1.2, fun i hi hpq => ?_⟩
  have hin : i ∈ List.range n := List.mem_range.2 (by have := List.mem_range.1 hr; omega)
  have hs : (pre ++ r :: post).Pairwise (· < ·) := by rw [← h2]; exact List.pairwise_lt_range
  rw [h2] at hin
  rcases List.mem_append.1 hin with hin | hin
  · have := h3 i hin
    simp [hpq.1, hpq.2] at this
  · rcases List.mem_cons.1 hin with rfl | hin
    · omega
    · have := (List.pairwise_cons.1 (List.pairwise_append.1 hs).2.1).1 i hin
      omega
theorem par_spec {l : List ByteArray} {b k e : Nat} (h : far l b k = ((e + 1 : Nat) : Int)) : par l b (far l b k) k < l.length ∧ far l b (par l b (far l b k) k) = (e : Int) ∧ nr l (par l b (far l b k) k) k = true ∧ ∀ i, i < par l b (far l b k) k → ¬ (far l b i = (e : Int) ∧ nr l i k = true) := by
  obtain ⟨h1, h2⟩ := lad_at h
  obtain ⟨h3, h4⟩ := h2 (by omega)
  rw [Nat.add_sub_cancel] at h3 h4
  have hv : (far l b k - 1).toNat = e := by rw [h]; omega
  have hen : e + 1 ≤ l.length := by have := lad_le l b l.length k; unfold far at h; omega
  unfold par
  rw [hv]
  obtain ⟨i, hi, hn⟩ := List.any_eq_true.1 h4
  obtain ⟨r, hr⟩ : ∃ r, (lvl l b e).find? (fun i => nr l i k) = some r := by
    cases hf : (lvl l b e).find? (fun i => nr l i k) with
    | some r => exact ⟨r, rfl⟩
    | none => exact absurd hn (by simpa using List.find?_eq_none.1 hf i hi)
  rw [hr]
  obtain ⟨g1, g2, g3, g4⟩ := find_first hr
  simp only [decide_eq_true_eq] at g2 g4
  have up : ∀ j, lad l b e j = (e : Int) → far l b j = (e : Int) := fun j hj => by
    have := lad_later (l := l) (b := b) (d := e) (k := j) (by omega) (l.length - e)
    rw [show e + (l.length - e) = l.length by omega] at this
    unfold far
    rw [this, hj]
  refine ⟨g1, up r g2, g3, fun i hi hc => g4 i hi ⟨(lad_at hc.1).1, hc.2⟩⟩
/-- The words on the way. -/
def pn (l : List ByteArray) (b ia : Nat) : Nat → Nat
  | 0 => ia
  | t + 1 => par l b (far l b (pn l b ia t)) (pn l b ia t)
theorem pn_at {l : List ByteArray} {b ia E : Nat} (hi : ia < l.length) (hE : far l b ia = (E : Int)) : ∀ t, t ≤ E → pn l b ia t < l.length ∧ far l b (pn l b ia t) = ((E - t : Nat) : Int)
  | 0, _ => ⟨hi, by simpa [pn] using hE⟩
  | t + 1, h => by
    obtain ⟨h1, h2⟩ := pn_at hi hE t (by omega)
    have h3 : far l b (pn l b ia t) = ((E - (t + 1) + 1 : Nat) : Int) := by rw [h2]; congr 1; omega
    obtain ⟨g1, g2, _, _⟩ := par_spec h3
    exact ⟨g1, g2⟩
theorem far_le (l : List ByteArray) (b k : Nat) : far l b k ≤ l.length := lad_le l b l.length k
def ladI (l : List ByteArray) (a b : ByteArray) : Int := far l (posL l b) (posL l a)
def ladC (l : List ByteArray) (a b : ByteArray) : Int := if lexOk l then if hasL l a && hasL l b then if ladI l a b < 0 then 6 else 0 else 3 else 1
def ladW (l : List ByteArray) (a b : ByteArray) (m : Nat) : List ByteArray := (List.range m).map fun t => wAt l (pn l (posL l b) (posL l a) t)
def ladL (l : List ByteArray) (a b : ByteArray) : List ByteArray := if ladC l a b = 0 then ladW l a b ((ladI l a b).toNat + 1) else []
theorem ladW_length (l : List ByteArray) (a b : ByteArray) (m : Nat) : (ladW l a b m).length = m := by simp [ladW]
theorem ladW_succ (l : List ByteArray) (a b : ByteArray) (m : Nat) : ladW l a b (m + 1) = ladW l a b m ++ [wAt l (pn l (posL l b) (posL l a) m)] := by simp [ladW, List.range_succ]
theorem hasL_at {l : List ByteArray} {x : ByteArray} (h : hasL l x = true) : posL l x < l.length ∧ wAt l (posL l x) = x := by simpa [hasL] using h
theorem ladL_le (l : List ByteArray) (a b : ByteArray) : (ladL l a b).length ≤ 1048576 := by
  unfold ladL
  split
  · rename_i h
    rw [ladW_length]
    have h1 : lexOk l = true := by
      cases hl : lexOk l
      · simp [ladC, hl] at h
      · rfl
    have h2 := lexOk_200 h1
    have h3 := far_le l (posL l b) (posL l a)
    unfold ladI
    omega
  · simp
end Go.Proofs.Ytaigabenlccdaaa
