/- Several texts in one: LadL, Ints. Conditions: see each. -/
import Derived.Test.YtaigabenlccdaaaLad
import Derived.Test.YtaigabenlccdaaaHookL
import Derived.Test.YtaigabenlccdaaaF6
import Derived.Test.YtaigabenlccdaaaMg6
import Derived.Test.YtaigabenlccdaaaStrs
section
namespace Go.Proofs.Ytaigabenlccdaaa
set_option linter.unusedVariables false
set_option linter.unusedSimpArgs false
theorem far_self {l : List ByteArray} {b : Nat} : far l b b = 0 := by
  have h0 : lad l b 0 b = 0 := by simp [lad]
  have := lad_later (l := l) (b := b) (d := 0) (k := b) (by omega) l.length
  rw [Nat.zero_add] at this
  unfold far
  rw [this, h0]
theorem far_zero {l : List ByteArray} {b k : Nat} (h : far l b k = 0) : k = b := by
  have h1 := (lad_at (e := 0) (show lad l b l.length k = ((0 : Nat) : Int) by unfold far at h; simpa using h)).1
  unfold lad at h1
  split at h1
  · assumption
  · simp at h1
theorem far_lt {l : List ByteArray} {b i e : Nat} (hb : b < l.length) (hi : i < l.length) (h : far l b i = (e : Int)) : e < l.length := by
  have h1 := (lad_at (show lad l b l.length i = (e : Int) from h)).1
  obtain ⟨D, hD, hl⟩ := lvl_ends hb
  have hn : i ∈ lvl l b e := mem_lvl.2 ⟨hi, h1⟩
  have h2 : e < D := by
    rcases Nat.lt_or_ge e D with h3 | h3
    · exact h3
    · exfalso
      have h4 := lvl_stop hl (e - D) i
      rw [show D + (e - D) = e by omega, h1] at h4
      have h5 := lad_le l b D i
      have h6 : e = D := by omega
      subst h6
      rw [hl] at hn
      cases hn
  omega
theorem far_walk {l : List ByteArray} {b i k e : Nat} (hb : b < l.length) (hi : i < l.length) (h : far l b i = (e : Int)) (hn : nr l i k = true) : 0 ≤ far l b k ∧ far l b k ≤ ((e + 1 : Nat) : Int) := by
  have he := far_lt hb hi h
  have h1 := (lad_at (show lad l b l.length i = (e : Int) from h)).1
  have h2 : 0 ≤ lad l b (e + 1) k := by
    rw [lad_succ]
    split
    · omega
    · rename_i hc
      rcases Int.lt_or_le (lad l b e k) 0 with h3 | h3
      · exact absurd ⟨h3, List.any_eq_true.2 ⟨i, mem_lvl.2 ⟨hi, h1⟩, hn⟩⟩ hc
      · exact h3
  have h3 := lad_later (l := l) (b := b) (d := e + 1) (k := k) h2 (l.length - (e + 1))
  rw [show e + 1 + (l.length - (e + 1)) = l.length by omega] at h3
  have h4 := lad_le l b (e + 1) k
  unfold far
  rw [h3]
  exact ⟨h2, h4⟩
theorem far_back {l : List ByteArray} {a b E : Nat} (ha : a < l.length) (hb : b < l.length) (h : far l b a = (E : Int)) : ∀ t, t ≤ E → ∃ e : Nat, e ≤ t ∧ far l a (pn l b a t) = (e : Int)
  | 0, _ => ⟨0, Nat.le_refl _, by rw [show pn l b a 0 = a from rfl, far_self]; rfl⟩
  | t + 1, ht => by
    obtain ⟨e, he, hf⟩ := far_back ha hb h t (by omega)
    obtain ⟨p1, p2⟩ := pn_at ha h t (by omega)
    obtain ⟨q1, q2, q3, _⟩ := par_spec (l := l) (b := b) (k := pn l b a t) (e := E - (t + 1)) (by rw [p2]; congr 1; omega)
    have hn : nr l (pn l b a t) (pn l b a (t + 1)) = true := by rw [nr_comm]; exact q3
    obtain ⟨w1, w2⟩ := far_walk ha p1 hf hn
    exact ⟨(far l a (pn l b a (t + 1))).toNat, by omega, by omega⟩
theorem far_le_back {l : List ByteArray} {a b E : Nat} (ha : a < l.length) (hb : b < l.length) (h : far l b a = (E : Int)) : ∃ e : Nat, e ≤ E ∧ far l a b = (e : Int) := by
  obtain ⟨e, he, hf⟩ := far_back ha hb h E (Nat.le_refl _)
  obtain ⟨p1, p2⟩ := pn_at ha h E (Nat.le_refl _)
  rw [Nat.sub_self] at p2
  rw [far_zero p2] at hf
  exact ⟨e, he, hf⟩
theorem far_comm {l : List ByteArray} {a b : Nat} (ha : a < l.length) (hb : b < l.length) : (far l b a < 0 ↔ far l a b < 0) ∧ (0 ≤ far l b a → far l b a = far l a b) := by
  have key : ∀ {a b : Nat}, a < l.length → b < l.length → 0 ≤ far l b a → 0 ≤ far l a b ∧ far l a b ≤ far l b a := fun {a b} ha hb h => by
    obtain ⟨e, he, hf⟩ := far_le_back (E := (far l b a).toNat) ha hb (by omega)
    omega
  refine ⟨⟨fun h => ?_, fun h => ?_⟩, fun h => ?_⟩
  · rcases Int.lt_or_le (far l a b) 0 with h1 | h1
    · exact h1
    · have := (key hb ha h1).1; omega
  · rcases Int.lt_or_le (far l b a) 0 with h1 | h1
    · exact h1
    · have := (key ha hb h1).1; omega
  · have h1 := key ha hb h
    have h2 := key hb ha h1.1
    omega
theorem ladC_comm (l : List ByteArray) (x y : ByteArray) : ladC l y x = ladC l x y := by
  unfold ladC
  cases hk : lexOk l
  · rfl
  cases hx : hasL l x <;> cases hy : hasL l y <;> try rfl
  have h := (far_comm (hasL_at hx).1 (hasL_at hy).1).1
  simp only [if_true, Bool.and_true]
  unfold ladI
  by_cases h1 : far l (posL l y) (posL l x) < 0
  · rw [if_pos (h.1 h1), if_pos h1]
  · rw [if_neg (fun h2 => h1 (h.2 h2)), if_neg h1]
theorem ladC_zero {l : List ByteArray} {x y : ByteArray} (h : ladC l x y = 0) : lexOk l = true ∧ hasL l x = true ∧ hasL l y = true ∧ 0 ≤ ladI l x y := by
  unfold ladC at h
  split at h
  · rename_i h1
    split at h
    · rename_i h2
      rw [Bool.and_eq_true] at h2
      split at h
      · cases h
      · exact ⟨h1, h2.1, h2.2, by omega⟩
    · cases h
  · cases h
theorem ladL_back {l : List ByteArray} {x y : ByteArray} (h : ladC l x y = 0) : (ladL l y x).length = (ladL l x y).length := by
  obtain ⟨_, hx, hy, h0⟩ := ladC_zero h
  have h1 : ladC l y x = 0 := by rw [ladC_comm]; exact h
  unfold ladL
  rw [if_pos h, if_pos h1, ladW_length, ladW_length]
  unfold ladI at h0 ⊢
  rw [(far_comm (hasL_at hx).1 (hasL_at hy).1).2 h0]
theorem wAt_ladW (l : List ByteArray) (x y : ByteArray) (m t : Nat) (h : t < m) : wAt (ladW l x y m) t = wAt l (pn l (posL l y) (posL l x) t) := by
  unfold ladW
  show ((List.range m).map fun t => wAt l (pn l (posL l y) (posL l x) t)).getD t ⟨#[]⟩ = _
  rw [List.getD_eq_getElem?_getD, List.getElem?_map, List.getElem?_range h]
  rfl
theorem long_of_mem {l : List ByteArray} (h : lexOk l = true) {s : ByteArray} (hs : s ∈ l) : wordOk s = true := by
  unfold lexOk at h
  simp only [Bool.and_eq_true] at h
  have h1 := List.all_eq_true.1 h.2.2 _ hs
  unfold longOk at h1
  rw [Bool.and_eq_true] at h1
  exact h1.2
/-- What a ladder is. -/
theorem ladL_is {l : List ByteArray} {x y : ByteArray} (h : ladC l x y = 0) : 0 < (ladL l x y).length ∧ (ladL l x y).length ≤ 201 ∧ wAt (ladL l x y) 0 = x ∧ wAt (ladL l x y) ((ladL l x y).length - 1) = y ∧
    (∀ t, t < (ladL l x y).length → askC l (wAt (ladL l x y) t) = 0 ∧ hasWordB l (wAt (ladL l x y) t) = true) ∧
    (∀ t, t + 1 < (ladL l x y).length → inL (relL (fun s => nearB (wAt (ladL l x y) t) s) l (wAt (ladL l x y) t)) (wAt (ladL l x y) (t + 1)) = true) := by
  obtain ⟨hk, hx, hy, h0⟩ := ladC_zero h
  obtain ⟨E, hE⟩ : ∃ E : Nat, ladI l x y = (E : Int) := ⟨(ladI l x y).toNat, by omega⟩
  have hL : ladL l x y = ladW l x y (E + 1) := by unfold ladL; rw [if_pos h, hE]; rfl
  obtain ⟨hia, hwa⟩ := hasL_at hx
  obtain ⟨hib, hwb⟩ := hasL_at hy
  have hEE : far l (posL l y) (posL l x) = (E : Int) := hE
  have hlt := far_lt hib hia hEE
  have h200 := lexOk_200 hk
  rw [hL, ladW_length]
  have hpn := fun t (ht : t ≤ E) => pn_at hia hEE t ht
  have hmem : ∀ t, t < E + 1 → wAt (ladW l x y (E + 1)) t ∈ l := fun t ht => by
    rw [wAt_ladW l x y _ t ht]
    exact wAt_mem l _ (hpn t (by omega)).1
  refine ⟨by omega, by omega, ?_, ?_, fun t ht => ?_, fun t ht => ?_⟩
  · rw [wAt_ladW l x y _ 0 (by omega)]; exact hwa
  · rw [wAt_ladW l x y _ _ (by omega), Nat.add_sub_cancel]
    have := (hpn E (Nat.le_refl _)).2
    rw [Nat.sub_self] at this
    rw [far_zero this]
    exact hwb
  · refine ⟨ask_yes hk (long_of_mem hk (hmem t ht)), ?_⟩
    unfold hasWordB
    rw [hk, (hasL_iff (lexOk_inc hk) _).2 (hmem t ht)]
    rfl
  · rw [inL_iff, relL_ok hk (long_of_mem hk (hmem t (by omega))), List.mem_filter]
    refine ⟨hmem (t + 1) ht, ?_⟩
    rw [wAt_ladW l x y _ t (by omega), wAt_ladW l x y _ (t + 1) ht]
    obtain ⟨_, _, q3, _⟩ := par_spec (l := l) (b := posL l y) (k := pn l (posL l y) (posL l x) t) (e := E - (t + 1)) (by rw [(hpn t (by omega)).2]; congr 1; omega)
    rw [nearB_comm]
    exact q3
end Go.Proofs.Ytaigabenlccdaaa
end
section
namespace Go.Proofs.Ytaigabenlccdaaa
set_option linter.unusedVariables false
set_option linter.unusedSimpArgs false
open Go Go.RowKit
def intsV (l : List Int) : List Value := l.map fun z => .int .i64 z
theorem intsV_length (l : List Int) : (intsV l).length = l.length := by simp [intsV]
theorem intsV_get (l : List Int) (k : Nat) (h : k < l.length) : (intsV l)[k]? = some (.int .i64 l[k]) := by simp [intsV, h]
theorem Rd.int {w : World} {a : Option Addr} {l : List Int} (h : Rd w a (intsV l)) (hn : 0 < l.length) : ∃ b o, a = some ⟨b, o, none⟩ ∧ ∀ k (hk : k < l.length), w.cell? ⟨b, o + k, none⟩ = some (.int .i64 l[k]) := by
  obtain ⟨b, o, ha, hc⟩ := h.at (by rw [intsV_length]; exact hn)
  exact ⟨b, o, ha, fun k hk => hc k _ (intsV_get l k hk)⟩
theorem El_int64 : El Try.prog 48 2 (.int .i64 0) 1 8 := by
  obtain ⟨i, h1, h2, h3, h4⟩ := info_parts (show (Try.prog.info? 2).map (fun i => (i.zero, i.size, i.bytes)) = some (some (.int .i64 0), 1, 8) by kernel_rfl)
  exact ⟨Try.underlying48, ⟨i, h1, h2, h3, h4⟩, rfl, by decide⟩
def szN (L : Int) (l : List Int) : Int := if L < l.length then -1 else L - l.length
end Go.Proofs.Ytaigabenlccdaaa
end
