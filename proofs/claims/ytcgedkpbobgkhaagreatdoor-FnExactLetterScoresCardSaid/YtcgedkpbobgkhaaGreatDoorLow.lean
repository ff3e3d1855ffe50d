/- Letters made small, rune by rune: what is small letters alone behind it. Plain. -/
import Derived.Test.YtcgedkpbobgkhaaGreatDoorCh01
import Derived.Test.YtcgedkpbobgkhaaGreatDoorLwB
import Derived.Test.YtcgedkpbobgkhaaGreatDoorCh12b
import Derived.Test.YtcgedkpbobgkhaaGreatDoorShelfL
import Derived.Lib.MapLaws
import Derived.Lib.TrimAscii
namespace Go.Proofs.YtcgedkpbobgkhaaGreatDoor
set_option linter.unusedVariables false
set_option linter.unusedSimpArgs false
open Go Go.RowKit Go.Lib
def smL (b : UInt8) : Bool := smallB b.toNat
def ltL (b : UInt8) : Bool := letterB b.toNat
theorem enc_big {r : Int} (h : ¬ (0 ≤ r ∧ r ≤ 127)) : ∃ x t, encodeRune r = x :: t ∧ smL x = false := by
  have k : ∀ z : Int, 192 ≤ z → z ≤ 255 → smL (z.toNat.toUInt8) = false := by
    intro z h1 h2
    have : (z.toNat.toUInt8).toNat = z.toNat := by simp; omega
    unfold smL smallB
    rw [this, decide_eq_false_iff_not]
    omega
  unfold encodeRune encodeRuneZ
  rw [if_neg h]
  split
  · exact ⟨_, _, rfl, k _ (by omega) (by omega)⟩
  · split
    · exact ⟨_, _, rfl, k _ (by omega) (by omega)⟩
    · split
      · exact ⟨_, _, rfl, k _ (by omega) (by omega)⟩
      · exact ⟨_, _, rfl, k _ (by omega) (by omega)⟩
theorem enc_small {r : Int} (h0 : 0 ≤ r) (h1 : r ≤ 127) : encodeRune r = [r.toNat.toUInt8] := by
  unfold encodeRune
  rw [encodeRuneZ_one h0 h1]
  rfl
theorem low_bad : toLowerU ((65533 : Nat) : Int) = 65533 := by decide +kernel
theorem low_lt (b : UInt8) (h : b.toNat < 128) : 0 ≤ toLowerU b.toNat ∧ toLowerU b.toNat ≤ 127 := by
  unfold toLowerU
  rw [if_pos (by omega)]
  split <;> omega
theorem low_sm (b : UInt8) (h : b.toNat < 128) : smL ((toLowerU b.toNat).toNat.toUInt8) = ltL b := by
  have := low_lt b h
  have e : ((toLowerU b.toNat).toNat.toUInt8).toNat = (toLowerU b.toNat).toNat := by simp; omega
  unfold smL ltL letterB smallB capB
  rw [e]
  unfold toLowerU
  rw [if_pos (by omega)]
  split
  · rw [Bool.eq_iff_iff]
    simp
    omega
  · rw [Bool.eq_iff_iff]
    simp
    omega
theorem low_core : ∀ (n : Nat) (l : List UInt8), l.length ≤ n → (toLowerD l).all smL = true → (toLowerD l).length ≤ l.length ∧ ((toLowerD l).length = l.length → l.all ltL = true)
  | 0, l, hn, _ => by
    have : l = [] := List.eq_nil_of_length_eq_zero (by omega)
    subst this
    exact ⟨by simp [toLowerD, mapD, mapGoD], fun _ => rfl⟩
  | n + 1, [], _, _ => ⟨by simp [toLowerD, mapD, mapGoD], fun _ => rfl⟩
  | n + 1, b :: t, hn, ha => by
    have hne : b :: t ≠ [] := by simp
    have st := mapD_step toLowerU (b :: t) hne
    change toLowerD (b :: t) = _ ++ toLowerD ((b :: t).drop (decodeL (b :: t)).2) at st
    rw [st] at ha ⊢
    rw [List.all_append, Bool.and_eq_true] at ha
    obtain ⟨ha1, ha2⟩ := ha
    rw [List.length_append]
    have w1 := decodeL_width (b :: t)
    have w2 := decodeL_le (b :: t) hne
    have hl : ((b :: t).drop (decodeL (b :: t)).2).length = (b :: t).length - (decodeL (b :: t)).2 := List.length_drop
    by_cases hb : b.toNat < 128
    · have hd := decodeL_ascii b t hb
      have hlo := low_lt b hb
      rw [hd] at ha1 ha2 hl w2 ⊢
      simp only at ha1 ha2 hl w2 ⊢
      rw [if_pos hlo.1, enc_small hlo.1 hlo.2] at ha1 ⊢
      rw [List.all_cons, List.all_nil, Bool.and_true, low_sm b hb] at ha1
      have ih := low_core n t (by simp at hn; omega) (by simpa using ha2)
      simp only [List.drop_succ_cons, List.drop_zero, List.length_cons, List.length_nil]
      refine ⟨by omega, fun e => ?_⟩
      rw [List.all_cons, ha1, Bool.true_and]
      exact ih.2 (by omega)
    · have ih := low_core n ((b :: t).drop (decodeL (b :: t)).2) (by simp only [hl]; simp only [List.length_cons] at hn ⊢; omega) ha2
      by_cases hf : 0 ≤ toLowerU ((decodeL (b :: t)).1 : Int)
      · rw [if_pos hf] at ha1 ⊢
        by_cases hs : toLowerU ((decodeL (b :: t)).1 : Int) ≤ 127
        · rw [enc_small hf hs] at ha1 ⊢
          have hk : 2 ≤ (decodeL (b :: t)).2 := by
            rcases Nat.lt_or_ge 1 (decodeL (b :: t)).2 with h | h
            · exact h
            · exfalso
              have h1 : (decodeL (b :: t)).2 = 1 := by omega
              by_cases hv : (decodeL (b :: t)).1 = 65533
              · rw [hv, low_bad] at hs
                omega
              · have he := encode_decode (b :: t) hne (fun q => hv q.1)
                rw [h1] at he
                by_cases hr : ((decodeL (b :: t)).1 : Int) ≤ 127
                · rw [enc_small (by omega) hr] at he
                  simp only [List.take_succ_cons, List.take_zero, List.cons.injEq, and_true] at he
                  rw [← he] at hb
                  simp at hb
                  omega
                · have hr' := hr
                  unfold encodeRune at he
                  have hlen := congrArg List.length he
                  rw [List.length_map] at hlen
                  unfold encodeRuneZ at hlen
                  rw [if_neg (by omega)] at hlen
                  split at hlen
                  · simp at hlen
                  · split at hlen
                    · simp at hlen
                    · split at hlen <;> simp at hlen
          have i1 := ih.1
          have q : ∀ z : UInt8, [z].length = 1 := fun z => rfl
          rw [q]
          exact ⟨by omega, fun e => absurd e (by omega)⟩
        · exfalso
          obtain ⟨x, r, e1, e2⟩ := enc_big (r := toLowerU ((decodeL (b :: t)).1 : Int)) (by omega)
          rw [e1, List.all_cons, e2] at ha1
          exact absurd ha1 (by simp)
      · rw [if_neg hf]
        have i1 := ih.1
        have q : ([] : List UInt8).length = 0 := rfl
        rw [q]
        exact ⟨by omega, fun e => absurd e (by omega)⟩
def lowS (s : ByteArray) : ByteArray := ⟨(toLowerD s.data.toList).toArray⟩
theorem low_letters : ∀ (l : List UInt8), l.all ltL = true → (toLowerD l).all smL = true ∧ (toLowerD l).length = l.length
  | [], _ => by simp [toLowerD, mapD, mapGoD]
  | b :: t, h => by
    rw [List.all_cons, Bool.and_eq_true] at h
    have hb : b.toNat < 128 := by
      have := h.1
      simp only [ltL, letterB, smallB, capB, Bool.or_eq_true, decide_eq_true_eq] at this
      omega
    have st := mapD_step toLowerU (b :: t) (by simp)
    change toLowerD (b :: t) = _ ++ toLowerD ((b :: t).drop (decodeL (b :: t)).2) at st
    rw [decodeL_ascii b t hb] at st
    simp only [List.drop_succ_cons, List.drop_zero] at st
    have hlo := low_lt b hb
    rw [if_pos hlo.1, enc_small hlo.1 hlo.2] at st
    have ih := low_letters t h.2
    rw [st]
    refine ⟨?_, by rw [List.length_append, ih.2]; simp; omega⟩
    rw [List.all_append, ih.1, List.all_cons, low_sm b hb, h.1]
    rfl
theorem allB_list (g : Int → Bool) (s : ByteArray) : allB g s = s.data.toList.all (fun x => g x.toNat) := rfl
/-- A word that is placed, by its small letters. -/
theorem placed_eq (s : ByteArray) : (wordOk (lowS s) && decide (s.size = (lowS s).size)) = (decide (1 ≤ s.size ∧ s.size ≤ 12) && allB letterB s) := by
  have hsz : (lowS s).size = (toLowerD s.data.toList).length := by
    show (toLowerD s.data.toList).toArray.size = _
    rw [List.size_toArray]
  have hss : s.size = s.data.toList.length := by rw [Array.length_toList]; rfl
  have hall : allB smallB (lowS s) = (toLowerD s.data.toList).all smL := by
    rw [allB_list]
    show ((toLowerD s.data.toList).toArray).toList.all _ = _
    rfl
  have hlet : allB letterB s = s.data.toList.all ltL := rfl
  rw [Bool.eq_iff_iff]
  unfold wordOk
  rw [hall, hlet]
  simp only [Bool.and_eq_true, decide_eq_true_eq, inB]
  constructor
  · rintro ⟨⟨h1, h2⟩, h3⟩
    have := low_core _ s.data.toList (Nat.le_refl _) h2
    exact ⟨by omega, this.2 (by omega)⟩
  · rintro ⟨h1, h2⟩
    have := low_letters s.data.toList h2
    exact ⟨⟨by omega, this.1⟩, by omega⟩
end Go.Proofs.YtcgedkpbobgkhaaGreatDoor
