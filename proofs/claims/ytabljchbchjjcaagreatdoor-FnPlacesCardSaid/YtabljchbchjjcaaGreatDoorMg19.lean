/- Several texts in one: DwU, Ch09f. Conditions: see each. -/
import Derived.Test.YtabljchbchjjcaaGreatDoorMg6
import Derived.Test.YtabljchbchjjcaaGreatDoorMg7
import Derived.Test.YtabljchbchjjcaaGreatDoorDwF
import Derived.Test.YtabljchbchjjcaaGreatDoorMg18
import Derived.Test.YtabljchbchjjcaaGreatDoorCh06o
import Derived.Test.YtabljchbchjjcaaGreatDoorCh09e
section
namespace Go.Proofs.YtabljchbchjjcaaGreatDoor
set_option linter.unusedVariables false
open Go Go.RowKit
/-- All about the automaton of a list of strings. -/
structure AutoOk (S : List ByteArray) (N : List Nd) (O : List Nat) (r : Nat) : Prop where
  dn : Dn N
  ne : NeOk N
  nd : N.Nodup
  rl : r < N.length
  oe : O = dfs N N.length [] r
  good : NdGood (numM N O)
  nl : N.length ≤ 200000
  ol : O.length ≤ 3000
  ed : ∀ z, z < N.length → (ndG N z).nx.length ≤ 100000
  fin : (ndG N r).fin = false
  cnt : cntN N r ≤ 3000
  lgs : lgsN N r ≤ 13
  lang : langN N r = S.map fun s => s.data.toList
section
variable {S : List ByteArray} {N : List Nd} {O : List Nat} {r : Nat}
theorem AutoOk.mem (h : AutoOk S N O r) : (∀ z ∈ O, z < N.length) ∧ (∀ z ∈ O, ∀ j ∈ nxs N z, j ∈ O) ∧ O.Nodup ∧ r ∈ O ∧ O.idxOf r = 0 := by
  obtain ⟨f1, f2, f3, f4⟩ := dfs_ok h.dn N.length [] r h.rl h.rl List.nodup_nil (by simp)
  rw [← h.oe] at f1 f2 f3 f4
  refine ⟨f2, fun z hz => f4 z hz (by simp), f1, f3, ?_⟩
  have hp : [r] <+: O := by
    rw [h.oe]
    obtain ⟨f, hf⟩ : ∃ f, N.length = f + 1 := ⟨N.length - 1, by have := h.rl; omega⟩
    rw [hf, dfs, if_neg (by simp), List.nil_append]
    exact foldl_pre _ _ fun o a _ => dfs_pre N f o a
  obtain ⟨t, ht⟩ := hp
  rw [← ht]
  simp
end
theorem formS_size {x : ByteArray} {k : Nat} (h0 : 0 < x.size) (hk : k ≤ x.size) : 0 < (formS x k).size := by
  rw [← lenL, formS_data x hk]
  have hl := lenL x
  unfold formB
  split
  · rw [List.length_reverse]; omega
  · simp; omega
/-- The forms of a small lexicon. -/
theorem srtF_small {l : List ByteArray} (h : lexOk l = true) (h6 : l.length ≤ 6) : (srtF l).length ≤ 72 ∧ (∀ s ∈ srtF l, 0 < s.size ∧ s.size ≤ 13 ∧ ∀ u ∈ s.data.toList, fB u) ∧ totL (sufs 0 (srtF l)) ≤ 936 := by
  obtain ⟨h1, h2, h3⟩ := lexOk_parts h
  have hp := sortW_perm (allF l)
  have hlen : (srtF l).length ≤ 72 := by
    have := allF_len (b := 12) (l := l) (fun s hs => (longOk_parts (h3 s hs)).2.1)
    unfold srtF
    rw [sortW_length]
    omega
  have hm : ∀ s ∈ srtF l, 0 < s.size ∧ s.size ≤ 13 ∧ ∀ u ∈ s.data.toList, fB u := fun s hs => by
    obtain ⟨x, hx, k, hk, rfl⟩ := mem_allF (hp.mem_iff.1 hs)
    obtain ⟨p1, p2, p3⟩ := longOk_parts (h3 x hx)
    have e := formS_data x hk
    refine ⟨formS_size (by omega) hk, ?_, fun u hu => ?_⟩
    · rw [← lenL, e]
      have := formB_len (x := x.data.toList) (k := k) (by rw [lenL]; exact hk)
      rw [lenL] at this
      omega
    · rw [e] at hu
      rcases formB_mem hu with hu | rfl
      · exact .inl (p3 u hu)
      · exact .inr (by decide)
  refine ⟨hlen, hm, ?_⟩
  have := totL_le (d := 0) (b := 13) (S := srtF l) (fun s hs => (hm s hs).2.1)
  omega
theorem wtN_at {N : List Nd} {z : Nat} (h : z < N.length) : (ndG N z).nx.length ≤ wtN N := by
  have e : ndG N z = N[z] := by unfold ndG; simp [h]
  rw [e]
  exact wtN_mem (List.getElem_mem h)
theorem auto_ok {l : List ByteArray} (h : lexOk l = true) (h6 : l.length ≤ 6) : ∃ N O r, AutoOk (srtF l) N O r ∧ dawgR (srtF l) = (numM N O, 0) := by
  obtain ⟨hW, -, -⟩ := srtF_ok h
  obtain ⟨s1, s2, s3⟩ := srtF_small h h6
  obtain ⟨S, hS⟩ : ∃ S, srtF l = S := ⟨_, rfl⟩
  rw [hS] at hW s1 s2 s3 ⊢
  have hf : ∀ x ∈ sufs 0 S, x.length < 101 := fun x hx => by
    obtain ⟨s, hs, rfl⟩ := List.mem_map.1 hx
    have := hW.hi s hs
    have hl := toL_len s
    rw [List.length_drop, hl]
    omega
  obtain ⟨h1, h2, h3⟩ := bld_ok 101 [] (sufs 0 S) hW.rise hf (by omega) Dn.nil
  have h4 := bld_nodup 101 [] (sufs 0 S) List.nodup_nil
  have h5 := bld_ne 101 [] (sufs 0 S) hW.rise hf (by omega) Dn.nil (fun k hk => by simp at hk)
  have h6' := bld_lang 101 [] (sufs 0 S) hW.rise hf (by omega) Dn.nil
  have h7 := bld_lt (P := fB) 101 [] (sufs 0 S) hW.rise (fun x hx u hu => by
    obtain ⟨s, hs, rfl⟩ := List.mem_map.1 hx
    exact (s2 s hs).2.2 u (by rw [List.drop_zero] at hu; exact hu)) (fun n hn => by simp at hn)
  have h8 := bld_len 101 [] (sufs 0 S) hW.rise
  have h9 := bld_wt 101 [] (sufs 0 S) hW.rise
  have hwt0 : wtN [] = 0 := rfl
  rw [hwt0] at h9
  simp only [List.length_nil] at h8
  obtain ⟨a1, a2, a3⟩ := autoS_ok hW
  have haut : autoS S = numM (bld 101 [] (sufs 0 S)).1 (dfs (bld 101 [] (sufs 0 S)).1 (bld 101 [] (sufs 0 S)).1.length [] (bld 101 [] (sufs 0 S)).2) := rfl
  obtain ⟨N, hN⟩ : ∃ N, (bld 101 [] (sufs 0 S)).1 = N := ⟨_, rfl⟩
  obtain ⟨r, hr⟩ : ∃ r, (bld 101 [] (sufs 0 S)).2 = r := ⟨_, rfl⟩
  rw [hN, hr] at haut h6'
  rw [hN] at h2 h3 h4 h5 h7 h8 h9
  rw [hr] at h3
  obtain ⟨O, hO⟩ : ∃ O, dfs N N.length [] r = O := ⟨_, rfl⟩
  rw [hO] at haut
  have hsf : sufs 0 S = S.map fun s => s.data.toList := by unfold sufs; simp
  obtain ⟨f1, f2, f3, f4⟩ := dfs_ok h2 N.length [] r h3 h3 List.nodup_nil (by simp)
  rw [hO] at f1 f2 f3 f4
  have hol := nodup_len f1 f2
  refine ⟨N, O, r, ⟨h2, h5, h4, h3, hO.symm, ?_, by omega, by omega, fun z hz => by have := wtN_at hz; omega, ?_, ?_, ?_, by rw [h6', hsf]⟩, ?_⟩
  · intro n hn
    obtain ⟨z, hz, rfl⟩ := List.mem_map.1 hn
    have hzN := f2 z hz
    have hd := h2 z hzN
    have hzm : ndG N z ∈ N := by
      have e : ndG N z = N[z] := by unfold ndG; simp [hzN]
      rw [e]
      exact List.getElem_mem hzN
    refine ⟨by simp [numN]; exact hd.1, (h7 _ hzm).1, (h7 _ hzm).2, fun j hj => ?_⟩
    obtain ⟨i, hi, rfl⟩ := List.mem_map.1 hj
    have hm : i.toNat ∈ O := f4 z hz (by simp) _ (List.mem_map_of_mem hi)
    have := List.idxOf_lt_length_of_mem hm
    rw [numM_len]
    omega
  · cases hfn : (ndG N r).fin
    · rfl
    · have hm : ([] : List UInt8) ∈ langN N r := by rw [lang_eq h2 h3, hfn]; simp
      rw [h6', hsf] at hm
      obtain ⟨s, hs, e⟩ := List.mem_map.1 hm
      have := (s2 s hs).1
      rw [← lenL, e] at this
      simp at this
  · unfold cntN
    rw [h6', sufs_length]
    omega
  · unfold lgsN
    rw [h6']
    refine mxL_le fun x hx => ?_
    rw [hsf] at hx
    obtain ⟨s, hs, rfl⟩ := List.mem_map.1 hx
    rw [lenL]
    exact (s2 s hs).2.1
  · unfold dawgR
    rw [if_neg (by omega), if_neg (by omega), haut]
/-- No mark in it. -/
def noM (s : ByteArray) : Bool := s.data.toList.all fun u => u != 62
theorem noM_form {x : ByteArray} (hx : longOk x = true) {k : Nat} (hk : k ≤ x.size) : noM (formS x k) = decide (k = x.size) := by
  have hno := word_no hx
  unfold noM
  rw [formS_data x hk]
  unfold formB
  by_cases e : k = x.data.toList.length
  · rw [if_pos e, decide_eq_true (by rw [← lenL]; exact e)]
    rw [List.all_eq_true]
    intro u hu
    have := hno u (List.mem_reverse.1 hu)
    simpa using this
  · rw [if_neg e, decide_eq_false (by rw [← lenL]; exact e)]
    rw [List.all_eq_false]
    exact ⟨62, by simp, by simp⟩
theorem allF_back : ∀ {l : List ByteArray}, (∀ s ∈ l, longOk s = true) → ((allF l).filter noM).map revS = l
  | [], _ => rfl
  | x :: r, h => by
    have ih := allF_back (l := r) (fun s hs => h s (List.mem_cons_of_mem _ hs))
    have hx := h x (by simp)
    have hx2 := (longOk_parts hx).1
    have e : allF (x :: r) = formL x x.size ++ allF r := by simp [allF]
    obtain ⟨m, hm⟩ : ∃ m, x.size = m + 1 := ⟨x.size - 1, by omega⟩
    have e2 : (formL x x.size).filter noM = [revS x] := by
      rw [hm, formL_succ, List.filter_append]
      have e3 : (formL x m).filter noM = [] := by
        rw [List.filter_eq_nil_iff]
        intro s hs
        obtain ⟨k, hk, rfl⟩ := List.mem_map.1 hs
        have := List.mem_range.1 hk
        rw [noM_form hx (by omega), decide_eq_false (by omega)]
        simp
      have e4 : formS x (m + 1) = revS x := by rw [← hm]; exact formS_last x
      have e5 : noM (formS x (m + 1)) = true := by rw [noM_form hx (by omega), hm]; simp
      rw [e3, List.filter_cons_of_pos e5, e4]
      rfl
    rw [e, List.filter_append, e2, List.map_append, ih]
    simp [revS_revS]
/-- The words behind the automaton's forms are the lexicon. -/
theorem back_ok {l : List ByteArray} (h : lexOk l = true) : sortW (((srtF l).filter noM).map revS) = l := by
  obtain ⟨h1, h2, h3⟩ := lexOk_parts h
  refine sortW_uniq ?_ ?_
  · have hp := sortW_perm (allF l)
    have := (hp.filter noM).map revS
    rw [allF_back h3] at this
    exact this.symm
  · have := rise_words h2
    unfold RiseS sufs at this
    rw [List.pairwise_map] at this
    refine this.imp fun {a b} hab => ?_
    rw [List.drop_zero, List.drop_zero] at hab
    simp only [leW, leB, decide_eq_true_eq]
    exact List.le_of_lt hab
end Go.Proofs.YtabljchbchjjcaaGreatDoor
end
section
namespace Go.Proofs.YtabljchbchjjcaaGreatDoor
set_option linter.unusedVariables false
set_option linter.unusedSimpArgs false
open Go Go.RowKit
theorem ownR_row {w : World} {B : Nat} {e : TypeId} {v : Value} {n : Nat} {xs : List Value} (h : w.ownsRow B e 1 v n xs) (hn : 0 < n) : ∃ a c, v = .slice a n c ∧ OwnR w B a xs := by
  have h0 := h
  rcases h.2 with ⟨_, h1⟩ | ⟨g, cap, cur, hv, hg, hh, r⟩
  · omega
  · subst hv
    exact ⟨_, cap, rfl, .inr ⟨g, rfl, hg, Wr.of h0⟩⟩
end Go.Proofs.YtabljchbchjjcaaGreatDoor
end
