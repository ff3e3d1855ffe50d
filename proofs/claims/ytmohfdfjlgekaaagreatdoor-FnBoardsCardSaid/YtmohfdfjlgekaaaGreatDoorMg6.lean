/- Several texts in one: Pile, ShelfW, Bld. Conditions: see each. -/
import Derived.Test.YtmohfdfjlgekaaaGreatDoorBytes
import Derived.Shelf.Strings.BuilderK
import Derived.Test.YtmohfdfjlgekaaaGreatDoorProg
import Derived.Test.YtmohfdfjlgekaaaGreatDoorBase
section
namespace Go.Proofs.YtmohfdfjlgekaaaGreatDoor
set_option linter.unusedVariables false
set_option linter.unusedSimpArgs false
def leU (a b : UInt8) : Bool := decide (a.toNat ≤ b.toNat)
def sortU (l : List UInt8) : List UInt8 := l.mergeSort leU
theorem sortU_perm (l : List UInt8) : (sortU l).Perm l := List.mergeSort_perm l leU
theorem sortU_sorted (l : List UInt8) : (sortU l).Pairwise (fun a b => a.toNat ≤ b.toNat) := by
  have := List.pairwise_mergeSort (le := leU) (fun a b c h1 h2 => by simp [leU] at *; omega) (fun a b => by simp [leU]; omega) l
  exact this.imp (by intro a b h; simpa [leU] using h)
theorem sorted_unique : ∀ {l m : List UInt8}, l.Perm m → l.Pairwise (fun a b => a.toNat ≤ b.toNat) → m.Pairwise (fun a b => a.toNat ≤ b.toNat) → l = m
  | [], m, h, _, _ => (List.Perm.nil_eq h)
  | a :: l, [], h, _, _ => by have := h.length_eq; simp at this
  | a :: l, b :: m, h, h1, h2 => by
    have hab : a = b := by
      rw [List.pairwise_cons] at h1 h2
      have e1 : a ∈ b :: m := h.subset (List.mem_cons_self ..)
      have e2 : b ∈ a :: l := h.symm.subset (List.mem_cons_self ..)
      have l1 : a.toNat ≤ b.toNat := by
        rcases List.mem_cons.1 e2 with rfl | e2
        · exact Nat.le_refl _
        · exact h1.1 _ e2
      have l2 : b.toNat ≤ a.toNat := by
        rcases List.mem_cons.1 e1 with rfl | e1
        · exact Nat.le_refl _
        · exact h2.1 _ e1
      exact UInt8.toNat_inj.1 (by omega)
    subst hab
    rw [sorted_unique (List.Perm.cons_inv h) (List.pairwise_cons.1 h1).2 (List.pairwise_cons.1 h2).2]
theorem sortU_eq {l m : List UInt8} (h : l.Perm m) (h1 : l.Pairwise (fun a b => a.toNat ≤ b.toNat)) : l = sortU m :=
  sorted_unique (h.trans (sortU_perm m).symm) h1 (sortU_sorted m)
theorem sortU_length (l : List UInt8) : (sortU l).length = l.length := (sortU_perm l).length_eq
/-- One step of sorting by inserting. -/
theorem sort_step (l : List UInt8) (x : UInt8) (k : Nat) (hk : k ≤ l.length) (h1 : ∀ y ∈ (sortU l).drop k, x.toNat < y.toNat) (h2 : k = 0 ∨ ((sortU l).getD (k - 1) 0).toNat ≤ x.toNat) :
    (sortU l).take k ++ x :: (sortU l).drop k = sortU (l ++ [x]) := by
  have hs := sortU_sorted l
  refine sortU_eq ?_ ?_
  · refine List.perm_middle.trans ?_
    rw [List.take_append_drop]
    refine ((sortU_perm l).cons x).trans ?_
    exact (List.perm_append_singleton x l).symm
  · rw [List.pairwise_append]
    refine ⟨hs.sublist (List.take_sublist _ _), ?_, ?_⟩
    · rw [List.pairwise_cons]
      exact ⟨fun y hy => Nat.le_of_lt (h1 y hy), hs.sublist (List.drop_sublist _ _)⟩
    · intro a ha b hb
      have hax : a.toNat ≤ x.toNat := by
        rcases h2 with rfl | h2
        · simp at ha
        · obtain ⟨i, hi, rfl⟩ := List.getElem_of_mem ha
          rw [List.length_take] at hi
          rw [List.getElem_take]
          refine Nat.le_trans ?_ h2
          have hl := sortU_length l
          rw [List.getD_eq_getElem?_getD, List.getElem?_eq_getElem (by omega)]
          simp only [Option.getD_some]
          by_cases e : i = k - 1
          · subst e; exact Nat.le_refl _
          · exact List.pairwise_iff_getElem.1 hs i (k - 1) _ _ (by omega)
      rcases List.mem_cons.1 hb with rfl | hb
      · exact hax
      · exact Nat.le_trans hax (Nat.le_of_lt (h1 b hb))
/-- The tile of a letter: a blank for a capital one. -/
def tileOf (x : UInt8) : UInt8 := if 65 ≤ x.toNat ∧ x.toNat ≤ 90 then 63 else x
/-- Tiles by their number. -/
def tileN (k : Nat) : UInt8 := if k = 0 then 63 else UInt8.ofNat (96 + k)
def placeN (x : UInt8) : Nat := if x.toNat = 63 then 0 else x.toNat - 96
def isTile (x : UInt8) : Prop := x.toNat = 63 ∨ (97 ≤ x.toNat ∧ x.toNat ≤ 122)
theorem tileN_toNat (k : Nat) (h : k < 27) : (tileN k).toNat = if k = 0 then 63 else 96 + k := by
  unfold tileN
  split
  · rfl
  · simp; omega
theorem placeN_lt {x : UInt8} (h : isTile x) : placeN x < 27 := by
  unfold placeN isTile at *
  split <;> omega
theorem tileN_placeN {x : UInt8} (h : isTile x) : tileN (placeN x) = x := by
  have := placeN_lt h
  apply UInt8.toNat_inj.1
  rw [tileN_toNat _ this]
  unfold placeN isTile at *
  by_cases e : x.toNat = 63
  · rw [if_pos e, if_pos rfl]; omega
  · rw [if_neg e, if_neg (by omega)]; omega
theorem placeN_tileN (k : Nat) (h : k < 27) : placeN (tileN k) = k := by
  unfold placeN
  rw [tileN_toNat k h]
  by_cases e : k = 0
  · rw [if_pos e, if_pos rfl, e]
  · rw [if_neg e, if_neg (by omega)]; omega
/-- How often each tile is there. -/
def cntN (l : List UInt8) (k : Nat) : Nat := l.count (tileN k)
def pileN (c : Nat → Nat) (m : Nat) : List UInt8 := (List.range m).flatMap fun k => List.replicate (c k) (tileN k)
theorem pileN_succ (c : Nat → Nat) (m : Nat) : pileN c (m + 1) = pileN c m ++ List.replicate (c m) (tileN m) := by
  unfold pileN
  rw [List.range_succ, List.flatMap_append]
  simp
theorem pileN_count (l : List UInt8) (x : UInt8) (hx : isTile x) : ∀ m, m ≤ 27 → (pileN (cntN l) m).count x = if placeN x < m then l.count x else 0
  | 0, _ => by simp [pileN]
  | m + 1, h => by
    rw [pileN_succ, List.count_append, pileN_count l x hx m (by omega), List.count_replicate]
    by_cases e : placeN x = m
    · have e2 : tileN m = x := by rw [← e]; exact tileN_placeN hx
      rw [if_neg (by omega), if_pos (by simp [e2]), if_pos (by omega)]
      unfold cntN
      rw [e2]; omega
    · have e2 : ¬ tileN m = x := fun q => e (by rw [← q]; exact placeN_tileN m (by omega))
      rw [if_neg (show ¬ ((tileN m == x) = true) by simpa using e2)]
      by_cases h' : placeN x < m
      · rw [if_pos h', if_pos (by omega)]; rfl
      · rw [if_neg h', if_neg (by omega)]
theorem pileN_mem (c : Nat → Nat) (m : Nat) (x : UInt8) (h : x ∈ pileN c m) : ∃ k, k < m ∧ x = tileN k := by
  unfold pileN at h
  obtain ⟨k, hk, hx⟩ := List.mem_flatMap.1 h
  exact ⟨k, List.mem_range.1 hk, (List.mem_replicate.1 hx).2⟩
theorem pileN_sorted (c : Nat → Nat) : ∀ m, m ≤ 27 → (pileN c m).Pairwise (fun a b => a.toNat ≤ b.toNat)
  | 0, _ => by simp [pileN]
  | m + 1, h => by
    rw [pileN_succ, List.pairwise_append]
    refine ⟨pileN_sorted c m (by omega), ?_, ?_⟩
    · rw [List.pairwise_replicate]; exact .inr (Nat.le_refl _)
    · intro a ha b hb
      obtain ⟨k, hk, rfl⟩ := pileN_mem c m a ha
      obtain ⟨_, rfl⟩ := List.mem_replicate.1 hb
      rw [tileN_toNat k (by omega), tileN_toNat m (by omega)]
      split <;> split <;> omega
theorem pile_sort (l : List UInt8) (h : ∀ x ∈ l, isTile x) : pileN (cntN l) 27 = sortU l := by
  refine sortU_eq ?_ (pileN_sorted _ 27 (Nat.le_refl _))
  rw [List.perm_iff_count]
  intro x
  by_cases hx : isTile x
  · rw [pileN_count l x hx 27 (Nat.le_refl _), if_pos (placeN_lt hx)]
  · rw [List.count_eq_zero.2 (fun hm => ?_), List.count_eq_zero.2 (fun hm => hx (h x hm))]
    obtain ⟨k, hk, rfl⟩ := pileN_mem _ _ _ hm
    refine hx ?_
    unfold isTile
    rw [tileN_toNat k hk]
    split <;> omega
/-- A tile more. -/
theorem cntN_snoc (l : List UInt8) (x : UInt8) (hx : isTile x) (k : Nat) (hk : k < 27) : cntN (l ++ [x]) k = if k = placeN x then cntN l k + 1 else cntN l k := by
  unfold cntN
  rw [List.count_append, List.count_singleton]
  by_cases e : k = placeN x
  · rw [if_pos e, if_pos (by rw [e, tileN_placeN hx]; simp)]
  · rw [if_neg e, if_neg (by
      intro q
      have q : x = tileN k := by simpa using q
      exact e (by rw [q, placeN_tileN k hk]))]
    omega
theorem pileN_length (l : List UInt8) (h : ∀ x ∈ l, isTile x) : (pileN (cntN l) 27).length = l.length := by rw [pile_sort l h, sortU_length]
theorem tileOf_tile (x : UInt8) (h : (97 ≤ x.toNat ∧ x.toNat ≤ 122) ∨ (65 ≤ x.toNat ∧ x.toNat ≤ 90)) : isTile (tileOf x) := by
  unfold tileOf isTile
  split
  · exact .inl rfl
  · right; omega
end Go.Proofs.YtmohfdfjlgekaaaGreatDoor
end
section
namespace Go.Proofs
open Go.Shelf
def Tryz.laysH167_ren : Go.Shelf.Ren := ⟨fun | 167 => 103 | 240 => 113 | 276 => 133 | n => n, fun | 0 => 0 | 4 => 4 | 5 => 5 | 9 => 9 | 20 => 20 | 37 => 22 | 70 => 98 | 72 => 100 | 75 => 103 | 80 => 54 | 164 => 140 | n => n, fun | n => n⟩
theorem Tryz.laysH167 : Go.Proofs.Lays.n167 Tryz.prog Tryz.laysH167_ren := {
  mixed := by kernel_rfl
  f167 := Tryz.func103.trans (congrArg some (by kernel_rfl))
  f240 := Tryz.func113.trans (congrArg some (by kernel_rfl))
  f276 := Tryz.func133.trans (congrArg some (by kernel_rfl))
  t0 := Tryz.underlying0
  a0 := Tryz.isAgg0
  z0 := Tryz.sizeOf0
  v0 := Tryz.zeroValue0
  t4 := Tryz.underlying4
  a4 := Tryz.isAgg4
  z4 := Tryz.sizeOf4
  v4 := Tryz.zeroValue4
  t5 := Tryz.underlying5
  a5 := Tryz.isAgg5
  z5 := Tryz.sizeOf5
  v5 := Tryz.zeroValue5
  t9 := Tryz.underlying9
  a9 := Tryz.isAgg9
  z9 := Tryz.sizeOf9
  v9 := Tryz.zeroValue9
  t20 := Tryz.underlying20
  a20 := Tryz.isAgg20
  z20 := Tryz.sizeOf20
  v20 := Tryz.zeroValue20
  t37 := Tryz.underlying22
  a37 := Tryz.isAgg22
  z37 := Tryz.sizeOf22
  v37 := Tryz.zeroValue22
  t70 := Tryz.underlying98
  a70 := Tryz.isAgg98
  z70 := Tryz.sizeOf98
  v70 := Tryz.zeroValue98
  t72 := Tryz.underlying100
  a72 := Tryz.isAgg100
  z72 := Tryz.sizeOf100
  v72 := Tryz.zeroValue100
  t75 := Tryz.underlying103
  a75 := Tryz.isAgg103
  z75 := Tryz.sizeOf103
  v75 := Tryz.zeroValue103
  t164 := Tryz.underlying140
  a164 := Tryz.isAgg140
  z164 := Tryz.sizeOf140
  v164 := Tryz.zeroValue140 }
theorem Tryz.Builder_Extra_H167 : Builder.Extra Tryz.prog Tryz.laysH167_ren := {
  sizeBuilder := by kernel_rfl
  liesBuilder := by kernel_rfl
  t5 := Tryz.underlying5
  a5 := Tryz.isAgg5
  z5 := Tryz.sizeOf5
  v5 := Tryz.zeroValue5
  infoByte := by kernel_rfl
  cellsByte := by kernel_rfl
  sizeByte := by kernel_rfl
  neB5 := by decide }
def Tryz.laysH169_ren : Go.Shelf.Ren := ⟨fun | 169 => 87 | n => n, fun | 0 => 0 | 3 => 3 | 5 => 5 | 9 => 9 | 37 => 22 | 70 => 98 | 72 => 100 | 127 => 120 | n => n, fun | n => n⟩
theorem Tryz.laysH169 : Go.Proofs.Lays.n169 Tryz.prog Tryz.laysH169_ren := {
  mixed := by kernel_rfl
  f169 := Tryz.func87.trans (congrArg some (by kernel_rfl))
  t0 := Tryz.underlying0
  a0 := Tryz.isAgg0
  z0 := Tryz.sizeOf0
  v0 := Tryz.zeroValue0
  t3 := Tryz.underlying3
  a3 := Tryz.isAgg3
  z3 := Tryz.sizeOf3
  v3 := Tryz.zeroValue3
  t9 := Tryz.underlying9
  a9 := Tryz.isAgg9
  z9 := Tryz.sizeOf9
  v9 := Tryz.zeroValue9
  t37 := Tryz.underlying22
  a37 := Tryz.isAgg22
  z37 := Tryz.sizeOf22
  v37 := Tryz.zeroValue22
  t70 := Tryz.underlying98
  a70 := Tryz.isAgg98
  z70 := Tryz.sizeOf98
  v70 := Tryz.zeroValue98
  t72 := Tryz.underlying100
  a72 := Tryz.isAgg100
  z72 := Tryz.sizeOf100
  v72 := Tryz.zeroValue100
  t127 := Tryz.underlying120
  a127 := Tryz.isAgg120
  z127 := Tryz.sizeOf120
  v127 := Tryz.zeroValue120 }
theorem Tryz.Builder_Extra_H169 : Builder.Extra Tryz.prog Tryz.laysH169_ren := {
  sizeBuilder := by kernel_rfl
  liesBuilder := by kernel_rfl
  t5 := Tryz.underlying5
  a5 := Tryz.isAgg5
  z5 := Tryz.sizeOf5
  v5 := Tryz.zeroValue5
  infoByte := by kernel_rfl
  cellsByte := by kernel_rfl
  sizeByte := by kernel_rfl
  neB5 := by decide }
end Go.Proofs
end
section
namespace Go.Proofs.YtmohfdfjlgekaaaGreatDoor
set_option linter.unusedVariables false
set_option linter.unusedSimpArgs false
open Go Go.RowKit
theorem bldr_below {T e : TypeId} {B b : Nat} {bs : List Value} {w w' : World} (h : Lib.IsBuilderF T e B b bs w) (hx : Ext w w') : Lib.IsBuilderF T e B b bs w' := by
  have k : ∀ p, Lib.BuilderAtF T e B b p bs w → Lib.BuilderAtF T e B b p bs w' := by
    intro p hp
    have hlt := hp.lt
    obtain ⟨h1, v, h2, h3, h4⟩ := hp
    refine ⟨h1, v, by rw [hx.below.block b hlt]; exact h2, ?_, h4⟩
    obtain ⟨g1, g2⟩ := h3
    refine ⟨g1, ?_⟩
    rcases g2 with g2 | ⟨g, cap, cur, fr, hv, hg, hh, r⟩
    · exact .inl g2
    · exact .inr ⟨g, cap, cur, fr, hv, hg, by rw [hx.below.block g (Array.getElem?_eq_some_iff.1 hh).1]; exact hh, r⟩
  rcases h with h | h
  · exact .inl (k _ h)
  · exact .inr (k _ h)
end Go.Proofs.YtmohfdfjlgekaaaGreatDoor
end
