/- Several texts in one: ShelfB, Ch05b. Conditions: see each. -/
import Derived.Shelf.Spec.SearchS
import Derived.Test.YtabljchbchjjcaaGreatDoorProg
import Derived.Test.YtabljchbchjjcaaGreatDoorCh05a
section
namespace Go.Proofs
open Go.Shelf
def Tryz.laysB26_ren : Go.Shelf.Ren := ⟨fun | 26 => 64 | 33 => 82 | 34 => 88 | 38 => 101 | n => n, fun | 0 => 0 | 3 => 3 | 4 => 4 | 9 => 9 | 24 => 24 | 40 => 106 | n => n, fun | n => n⟩
theorem Tryz.laysB26 : Go.Proofs.Lays2.n26 Tryz.prog Tryz.laysB26_ren := {
  mixed := by kernel_rfl
  f26 := Tryz.func64.trans (congrArg some (by kernel_rfl))
  f33 := Tryz.func82.trans (congrArg some (by kernel_rfl))
  f34 := Tryz.func88.trans (congrArg some (by kernel_rfl))
  f38 := Tryz.func101.trans (congrArg some (by kernel_rfl))
  t0 := Tryz.underlying0
  a0 := Tryz.isAgg0
  z0 := Tryz.sizeOf0
  v0 := Tryz.zeroValue0
  t3 := Tryz.underlying3
  a3 := Tryz.isAgg3
  z3 := Tryz.sizeOf3
  v3 := Tryz.zeroValue3
  t4 := Tryz.underlying4
  a4 := Tryz.isAgg4
  z4 := Tryz.sizeOf4
  v4 := Tryz.zeroValue4
  t9 := Tryz.underlying9
  a9 := Tryz.isAgg9
  z9 := Tryz.sizeOf9
  v9 := Tryz.zeroValue9
  t24 := Tryz.underlying24
  a24 := Tryz.isAgg24
  z24 := Tryz.sizeOf24
  v24 := Tryz.zeroValue24
  t40 := Tryz.underlying106
  a40 := Tryz.isAgg106
  z40 := Tryz.sizeOf106
  v40 := Tryz.zeroValue106 }
end Go.Proofs
end
section
namespace Go.Proofs.YtabljchbchjjcaaGreatDoor
set_option linter.unusedVariables false
set_option linter.unusedSimpArgs false
open Go Go.RowKit
/-- The number of the first word that is not less. -/
def posL (l : List ByteArray) (x : ByteArray) : Nat := l.findIdx fun s => !lessB s x
def hasL (l : List ByteArray) (x : ByteArray) : Bool := decide (posL l x < l.length ∧ wAt l (posL l x) = x)
theorem posL_le (l : List ByteArray) (x : ByteArray) : posL l x ≤ l.length := List.findIdx_le_length
theorem posL_eq {l : List ByteArray} {x : ByteArray} {k : Nat} (hk : k ≤ l.length) (h1 : ∀ j, j < k → lessB (wAt l j) x = true) (h2 : k < l.length → lessB (wAt l k) x = false) : posL l x = k := by
  unfold posL
  by_cases hlt : k < l.length
  · rw [List.findIdx_eq hlt]
    refine ⟨by rw [wAt_eq l k hlt, h2 hlt]; rfl, fun j hj => ?_⟩
    rw [wAt_eq l j (by omega), h1 j hj]
    rfl
  · obtain rfl : k = l.length := by omega
    rw [List.findIdx_eq_length]
    intro y hy
    obtain ⟨j, hj, rfl⟩ := List.getElem_of_mem hy
    rw [wAt_eq l j hj, h1 j hj]
    rfl
theorem posL_before {l : List ByteArray} {x : ByteArray} {j : Nat} (h : j < posL l x) : lessB (wAt l j) x = true := by
  have hl := posL_le l x
  have := List.not_of_lt_findIdx h
  rw [wAt_eq l j (by omega)] at this
  simpa using this
theorem posL_at {l : List ByteArray} {x : ByteArray} (h : posL l x < l.length) : lessB (wAt l (posL l x)) x = false := by
  have : (fun s => !lessB s x) l[posL l x] = true := List.findIdx_getElem (w := h)
  rw [wAt_eq l _ h] at this
  simpa using this
theorem lessB_trans {p q r : ByteArray} (h : lessB p q = true) (k : lessB q r = true) : lessB p r = true := by
  unfold lessB at *
  rw [Go.Proofs.bytesLess_eq, decide_eq_true_eq] at *
  exact List.lt_trans h k
theorem lessB_self (p : ByteArray) : lessB p p = false := by
  unfold lessB
  rw [Go.Proofs.bytesLess_eq, decide_eq_false_iff_not]
  exact List.lt_irrefl _
theorem incB_at {l : List ByteArray} (h : incB l = true) {i : Nat} (hi : i + 1 < l.length) : lessB (wAt l i) (wAt l (i + 1)) = true := by
  unfold incB at h
  rw [List.all_eq_true] at h
  exact h i (List.mem_range.2 (by omega))
theorem incB_lt {l : List ByteArray} (h : incB l = true) {i : Nat} : ∀ j, i < j → j < l.length → lessB (wAt l i) (wAt l j) = true
  | 0, hj, _ => by omega
  | j + 1, hj, hl => by
    by_cases e : i = j
    · subst e; exact incB_at h hl
    · exact lessB_trans (incB_lt h j (by omega) (by omega)) (incB_at h hl)
theorem posL_after {l : List ByteArray} (h : incB l = true) {x : ByteArray} {j : Nat} (hj : posL l x ≤ j) (hl : j < l.length) : lessB (wAt l j) x = false := by
  by_cases e : posL l x = j
  · rw [← e]; exact posL_at (by omega)
  · cases hb : lessB (wAt l j) x
    · rfl
    · have := lessB_trans (incB_lt h j (show posL l x < j by omega) hl) hb
      rw [posL_at (by omega)] at this
      cases this
theorem bytes_beq (p q : ByteArray) : (p.toList == q.toList) = decide (p = q) := by
  rw [Bool.eq_iff_iff, beq_iff_eq, decide_eq_true_eq]
  constructor
  · intro h
    rw [Lib.toList_data, Lib.toList_data] at h
    cases p
    cases q
    exact congrArg ByteArray.mk (Array.toList_inj.1 h)
  · rintro rfl; rfl
theorem lexOk_inc {l : List ByteArray} (h : lexOk l = true) : incB l = true := by
  unfold lexOk at h
  simp only [Bool.and_eq_true] at h
  exact h.2.1
theorem lexOk_200 {l : List ByteArray} (h : lexOk l = true) : l.length ≤ 200 := by
  unfold lexOk at h
  simp only [Bool.and_eq_true, decide_eq_true_eq] at h
  exact h.1
set_option maxHeartbeats 400000 in
theorem l05First_any (a : Option Addr) (c : Nat) (l : List ByteArray) (x : ByteArray) (w : World) (h : Rd w a (strsV l)) (hl : l.length ≤ 1048576) :
    Calls Tryz.prog 43 #[.slice a l.length c, .string x] w fun e w' => e = .returned (.int .i64 (posL l x)) ∧ Dr w w' := by
  have HR := hid h
  have HE := hid (fun k => @posL_eq l x k)
  clear h
  go_enter Tryz.func43, Tryz.ntmps43
  go_wp2_with fail
  go_loopw [5] (fun i wr => ∃ k : Nat, k ≤ l.length ∧ i = .int .i64 k ∧ Hid (∀ j, j < k → lessB (wAt l j) x = true) ∧ Dr w wr) (fun i _ => l.length - (intOf i).toNat)
  case atStart => exact ⟨0, by omega, rfl, hid (fun j hj => by omega), Dr.refl _⟩
  case round =>
    obtain ⟨k, hk, rfl, hall, hD⟩ := hrel
    by_cases hlt : k < l.length
    · obtain ⟨b, o, rfl, hc⟩ := (HR.out.ext hD.ext).word (by omega)
      have c0 := hc k hlt
      have HL : Hid (lessB (wAt l k) x = Op.bytesLess (wAt l k).toList x.toList) := hid rfl
      obtain ⟨s, hs⟩ : ∃ s, wAt l k = s := ⟨_, rfl⟩
      rw [hs] at c0 HL
      have HS := hid hs
      clear hs hc
      cases hb : Op.bytesLess s.toList x.toList
      · have HB := hid hb
        go_wp2_with fail
        go_returns
        exact ⟨ret_int (by rw [HE.out k hk hall.out (fun _ => by rw [HS.out, HL.out, HB.out])]), hD⟩
      · have HB := hid hb
        go_wp2_with fail
        go_roundw
        case rel => exact ⟨k + 1, by omega, by go_num, hid (fun j hj => by
          by_cases hjk : j = k
          · subst hjk; rw [HS.out, HL.out, HB.out]
          · exact hall.out j (by omega)), hD⟩
        case measure => simp [intOf]; omega
    · go_wp2_with fail
      go_returns
      exact ⟨ret_int (by rw [HE.out k hk hall.out (fun q => absurd q hlt)]), hD⟩
set_option maxHeartbeats 400000 in
theorem l05Has_any (a : Option Addr) (c : Nat) (l : List ByteArray) (x : ByteArray) (w : World) (h : Rd w a (strsV l)) (hl : l.length ≤ 1048576) :
    Calls Tryz.prog 25 #[.slice a l.length c, .string x] w fun e w' => e = .returned (.bool (hasL l x)) ∧ Dr w w' := by
  have HR := hid h
  have H : Hid (hasL l x = decide (posL l x < l.length ∧ wAt l (posL l x) = x)) := hid rfl
  clear h
  go_enter Tryz.func25, Tryz.ntmps25
  go_wp2_with fail
  refine (l05First_any a c l x _ HR.out hl).mono ?_
  rintro e w1 ⟨rfl, hD⟩
  obtain ⟨k, hk⟩ : ∃ k, posL l x = k := ⟨_, rfl⟩
  rw [hk] at H ⊢
  have HK := hid hk
  clear hk
  by_cases hlt : k < l.length
  · obtain ⟨b, o, rfl, hc⟩ := (HR.out.ext hD.ext).word (by omega)
    have c0 := hc k hlt
    have HQ : Hid (hasL l x = ((wAt l k).toList == x.toList)) := hid (by rw [H.out, bytes_beq, decide_eq_decide]; exact ⟨fun h => h.2, fun h => ⟨hlt, h⟩⟩)
    obtain ⟨s, hs⟩ : ∃ s, wAt l k = s := ⟨_, rfl⟩
    rw [hs] at c0 HQ
    clear hs hc
    go_wp2_with fail
    go_returns
    exact ⟨ret_bool HQ.out.symm, hD⟩
  · have HQ : Hid (hasL l x = false) := hid (by rw [H.out, decide_eq_false_iff_not]; exact fun h => hlt h.1)
    go_wp2_with fail
    go_returns
    exact ⟨ret_bool HQ.out.symm, hD⟩
theorem bs_pos {l : List ByteArray} (x : ByteArray) (h : incB l = true) : Lib.bsGo (fun t => Op.bytesLess ((fun t => if t < l.length then wAt l t else x) t).toList x.toList) l.length 0 l.length = posL l x := by
  refine Lib.bsGo_spec _ _ ?_ ?_ _ _ _ (by omega) (by omega) (posL_le l x)
  · intro t ht
    have := posL_le l x
    show lessB (if t < l.length then wAt l t else x) x = true
    rw [if_pos (by omega)]
    exact posL_before ht
  · intro t ht
    show lessB (if t < l.length then wAt l t else x) x = false
    split
    · exact posL_after h ht ‹_›
    · exact lessB_self x
set_option maxHeartbeats 400000 in
theorem BinarySearch_any (a : Option Addr) (c : Nat) (l : List ByteArray) (x : ByteArray) (w : World) (h : Rd w a (strsV l)) (hl : l.length ≤ 1048576) (hi : incB l = true) :
    Calls Tryz.prog 64 #[.slice a l.length c, .string x] w fun e w' => e = .returned (.tuple #[.int .i64 (posL l x), .bool (hasL l x)]) ∧ Dr w w' := by
  by_cases hn : 0 < l.length
  · obtain ⟨b, o, rfl, hc⟩ := h.word hn
    refine (Any2.slices_BinarySearch_string Tryz.laysB26 b o l.length c (fun t => if t < l.length then wAt l t else x) x w (by omega) (fun j hj => by rw [hc j hj, if_pos hj])).mono ?_
    rintro e w' ⟨rfl, hD⟩
    rw [bs_pos x hi]
    refine ⟨?_, hD⟩
    have e : decide (posL l x < l.length ∧ (if posL l x < l.length then wAt l (posL l x) else x) = x) = hasL l x := by
      unfold hasL
      rw [decide_eq_decide]
      constructor
      · rintro ⟨h1, h2⟩
        rw [if_pos h1] at h2
        exact ⟨h1, h2⟩
      · rintro ⟨h1, h2⟩
        rw [if_pos h1]
        exact ⟨h1, h2⟩
    rw [← e]
  · have e : l = [] := List.eq_nil_of_length_eq_zero (by omega)
    subst e
    refine (Any2.slices_BinarySearch_string_empty Tryz.laysB26 a c x w).mono ?_
    rintro e w' ⟨rfl, rfl⟩
    exact ⟨rfl, Dr.refl _⟩
set_option maxHeartbeats 400000 in
theorem has_any (a : Option Addr) (c : Nat) (l : List ByteArray) (x : ByteArray) (w : World) (h : Rd w a (strsV l)) (hl : l.length ≤ 1048576) (hi : incB l = true) :
    Calls Tryz.prog 44 #[lexV a l.length c, .string x] w (Ret (.bool (hasL l x)) w) := by
  have HR := hid (h.ext ((Ext.refl w).alloc (.cells #[.slice a l.length c] 26)))
  have HI := hid hi
  clear h hi
  go_enter Tryz.func44, Tryz.ntmps44
  go_wp2_with fail
  refine (BinarySearch_any a c l x _ HR.out hl HI.out).mono ?_
  rintro e w1 ⟨rfl, hD⟩
  go_wp2_with fail
  go_returns
  exact ⟨rfl, ((Ext.refl w).alloc _).trans hD.ext⟩
def hasWordB (l : List ByteArray) (x : ByteArray) : Bool := lexOk l && hasL l x
set_option maxHeartbeats 400000 in
theorem sHasWord_any (a : Option Addr) (c : Nat) (l : List ByteArray) (p : ByteArray) (w : World) (h : Rd w a (strsV l)) (hl : l.length ≤ 1048576) (hs : ∀ s ∈ l, s.size ≤ 1048576) :
    Calls Tryz.prog 10 #[lexV a l.length c, .string p] w (Ret (.bool (hasWordB l p)) w) := by
  have H : Hid (hasWordB l p = (lexOk l && hasL l p)) := hid rfl
  have HR : Hid (∀ w', Ext w w' → Rd w' a (strsV l)) := hid (fun w' k => h.ext k)
  have HLX : Hid (LxAt (w.alloc (.cells #[.slice a l.length c] 26)) w.heap.size 0 l) := hid ⟨a, c, by simp, h.ext ((Ext.refl w).alloc _)⟩
  clear h
  go_enter Tryz.func10, Tryz.ntmps10
  go_wp2_with fail
  refine (l05Ok_any _ _ l _ HLX.out hl hs).mono ?_
  rintro e w1 ⟨rfl, hD⟩
  have b0 := hD.ext.cell (b := w.heap.size) (o := 0) (v := .slice a l.length c) (by simp)
  have hE := ((Ext.refl w).alloc _).trans hD.ext
  clear hD
  cases h1 : lexOk l
  · have L1 := hid h1
    go_wp2_with fail
    go_returns
    exact ⟨ret_bool (by rw [H.out, L1.out]; rfl), hE⟩
  · have L1 := hid h1
    clear h1
    go_wp2_with fail
    refine (l05Has_any a c l p _ (HR.out _ hE) hl).mono ?_
    rintro e w2 ⟨rfl, hD⟩
    go_wp2_with fail
    go_returns
    exact ⟨ret_bool (by rw [H.out, L1.out]; rfl), hE.trans hD.ext⟩
end Go.Proofs.YtabljchbchjjcaaGreatDoor
end
