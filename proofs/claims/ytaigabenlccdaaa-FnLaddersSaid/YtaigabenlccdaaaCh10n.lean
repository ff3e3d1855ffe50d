/- Whether a word can be made with tiles: by the program (counts) and by the reference (a pile). Conditions: small letters alone in the word. -/
import Derived.Test.YtaigabenlccdaaaCh03d
import Derived.Test.YtaigabenlccdaaaCh03c
import Derived.Test.YtaigabenlccdaaaCh10m
namespace Go.Proofs.Ytaigabenlccdaaa
set_option linter.unusedVariables false
set_option linter.unusedSimpArgs false
open Go Go.RowKit
def cntZ (f : Nat → Int) : Array Value := ((List.range 27).map fun k => Value.int .i64 (f k)).toArray
theorem cntA_Z (f : Nat → Nat) : cntA f = cntZ fun k => (f k : Int) := rfl
theorem cntZ_size (f : Nat → Int) : (cntZ f).size = 27 := by simp [cntZ]
theorem cntZ_get (f : Nat → Int) (k : Nat) (h : k < 27) : (cntZ f)[k]? = some (.int .i64 (f k)) := by
  simp [cntZ, h]
theorem cntZ_set (f : Nat → Int) (k : Nat) (n : Int) (h : k < 27) : (cntZ f).setIfInBounds k (.int .i64 n) = cntZ fun j => if j = k then n else f j := by
  apply Array.ext
  · simp [cntZ]
  · intro i h1 h2
    rw [Array.getElem_setIfInBounds (by simpa [cntZ] using h1)]
    by_cases e : k = i
    · subst e; simp [cntZ]
    · rw [if_neg e]; simp [cntZ, Ne.symm e]
theorem cntZ_congr {f f' : Nat → Int} (h : ∀ k, k < 27 → f k = f' k) : cntZ f = cntZ f' := by
  unfold cntZ
  congr 1
  apply List.map_congr_left
  intro k hk
  rw [h k (List.mem_range.1 hk)]
theorem cntA_one (f : Nat → Nat) : (cntA f).all (·.oneCell') = true := by
  simp [cntA, Value.oneCell']
theorem cntZ_one (f : Nat → Int) : (cntZ f).all (·.oneCell') = true := by
  simp [cntZ, Value.oneCell']
theorem Ext.setRow {w w' : World} (h : Ext w w') (g : Nat) (hg : w.heap.size ≤ g) (cs : Array Value) : Ext w (w'.setRow g cs) :=
  ⟨h.os, h.tape, h.output, by rw [setRow_size]; exact h.size, fun i hi => by rw [setRow_other _ _ _ _ (by omega)]; exact h.block i hi⟩
theorem take_byte (s : ByteArray) (k : Nat) (h : k < s.size) : s.data.toList.take (k + 1) = s.data.toList.take k ++ [s[k]] := by
  rw [List.take_succ_eq_append_getElem (by simpa using h)]; rfl
theorem getD_byte (s : ByteArray) (k : Nat) (h : k < s.size) : s.data.toList.getD k 0 = s[k] := by
  rw [List.getD_eq_getElem?_getD, List.getElem?_eq_getElem (by simpa using h)]; rfl
def smallU (x : UInt8) : Prop := 97 ≤ x.toNat ∧ x.toNat ≤ 122
theorem smallU.tile {x : UInt8} (h : smallU x) : isTile x := .inr h
theorem isTile_of {s : ByteArray} (h : tilsB s = true) : ∀ x ∈ s.data.toList, isTile x := by
  intro x hx
  obtain ⟨i, hi, rfl⟩ := List.getElem_of_mem hx
  unfold tilsB at h
  rw [List.all_eq_true] at h
  have := h i (List.mem_range.2 (by simpa using hi))
  unfold tilB cAt smallB at this
  rw [List.getD_eq_getElem?_getD, List.getElem?_eq_getElem hi] at this
  simp only [Option.getD_some, Bool.or_eq_true, beq_iff_eq, decide_eq_true_eq] at this
  unfold isTile
  omega
theorem placeI_of {x : UInt8} (h : isTile x) : placeI (x.toNat : Int) = (placeN x : Int) := by
  unfold placeI placeN
  rcases h with h | h
  · rw [if_pos (by omega), if_pos h]; rfl
  · rw [if_neg (by omega), if_pos (by omega), if_neg (by omega)]; omega
set_option maxHeartbeats 1000000 in
theorem countsOf_any (s : ByteArray) (w : World) (hs : s.size ≤ 1048576) (ht : ∀ x ∈ s.data.toList, isTile x) :
    Calls Try.prog 44 #[.string s] w (Ret (.agg (cntA (cntN s.data.toList))) w) := by
  have HT := hid (take_byte s)
  have HL := hid (fun k (h : k < s.size) => ht s[k] (by show s.data[k] ∈ s.data.toList; simp))
  clear ht
  go_enter Try.func44, Try.ntmps44
  go_wp2_with fail
  have HZ : Hid ((w.alloc (.cells (cntA fun _ => 0) 68)).heap.size = w.heap.size + 1) := hid (by simp)
  go_loopw [4] (fun i wr => ∃ k : Nat, k ≤ s.size ∧ i = .int .i64 (k : Int) ∧ wr.heap[w.heap.size + 1]? = some (.cells (cntA (cntN (s.data.toList.take k))) 68 (0, 0)) ∧ Hid (wr.heap[w.heap.size]? = some (.cells (cntA fun _ => 0) 68 (0, 0))) ∧ Ext w wr) (fun i _ => s.size - (intOf i).toNat)
  case atStart =>
    refine ⟨0, by omega, rfl, ?_, hid ?_, ((Ext.refl w).alloc _).alloc _⟩
    · have := heap_alloc_new (w.alloc (.cells (cntA fun _ => 0) 68)) (.cells (cntA fun _ => 0) 68)
      rw [HZ.out] at this
      exact this
    · rw [heap_alloc_old _ _ (by simp only [World.size_alloc]; omega)]
      exact heap_alloc_new _ _
  case round =>
    obtain ⟨k, hk, rfl, hg, HG0, hE⟩ := hrel
    by_cases hlt : k < s.size
    · obtain ⟨L, hL⟩ : ∃ L, s.data.toList.take k = L := ⟨_, rfl⟩
      have hLl : L.length ≤ k := by rw [← hL]; simp; omega
      have hx := HL.out k hlt
      have HS := hid (HT.out k hlt)
      rw [hL] at hg HS
      clear hL
      obtain ⟨x, hxx⟩ : ∃ x, s[k] = x := ⟨_, rfl⟩
      rw [hxx] at hx HS
      have hxb : x.toNat < 256 := x.toNat_lt
      have hpl := placeN_lt hx
      have HP := hid (fun w => place_any (x.toNat : Int) w (by omega) (by omega))
      rw [placeI_of hx] at HP
      obtain ⟨p, hp⟩ : ∃ p, placeN x = p := ⟨_, rfl⟩
      rw [hp] at HP
      have hp27 : (p : Int) < 27 := by omega
      have hcv : cntN L p ≤ k := Nat.le_trans List.count_le_length hLl
      obtain ⟨v, hv⟩ : ∃ v, cntN L p = v := ⟨_, rfl⟩
      have hvk : v ≤ k := by rw [← hv]; exact hcv
      have hcell : wr.cell? ⟨w.heap.size + 1, p, none⟩ = some (.int .i64 (v : Int)) := by
        rw [cell_of_row _ _ _ _ _ _ hg, cntA_get _ _ (by omega), hv]
      have hfr := frozen_of_row wr (w.heap.size + 1) p _ _ hg
      have HG : Hid ((wr.setCell ⟨w.heap.size + 1, p, none⟩ (.int .i64 ((v : Int) + 1))).heap[w.heap.size + 1]? = some (.cells (cntA (cntN (s.data.toList.take (k + 1)))) 68 (0, 0))) := hid (by
        rw [heap_setCell_same _ _ _ _ _ _ hg, HS.out]
        congr 2
        rw [show ((v : Int) + 1) = ((v + 1 : Nat) : Int) by omega, cntA_set _ _ _ (by omega)]
        refine cntA_congr (fun j hj => ?_)
        rw [cntN_snoc _ _ hx _ hj, hp]
        by_cases e : j = p
        · subst e; rw [if_pos rfl, if_pos rfl, hv]
        · rw [if_neg e, if_neg e])
      have HG1 : Hid ((wr.setCell ⟨w.heap.size + 1, p, none⟩ (.int .i64 ((v : Int) + 1))).heap[w.heap.size]? = some (.cells (cntA fun _ => 0) 68 (0, 0))) := hid (by
        rw [heap_setCell_other _ _ _ _ (by simp)]
        exact HG0.out)
      have HE2 : Hid (Ext w (wr.setCell ⟨w.heap.size + 1, p, none⟩ (.int .i64 ((v : Int) + 1)))) := hid (hE.setCell (by show w.heap.size ≤ w.heap.size + 1; omega) _)
      clear hg hv hp hpl hx HS HL HT HG0
      go_wp2_with fail
      refine (HP.out _).mono ?_
      rintro e w' ⟨rfl, rfl⟩
      go_wp2_with fail
      go_roundw
      case rel => exact ⟨k + 1, by omega, by go_num, HG.out, HG1, HE2.out⟩
      case measure => simp [intOf]; omega
    · obtain rfl : k = s.size := by omega
      have e0 : s.data.toList.take s.size = s.data.toList := List.take_of_length_le (by simp)
      rw [e0] at hg
      have h1 := cntA_one (cntN s.data.toList)
      have hs1 := cntA_size (cntN s.data.toList)
      obtain ⟨A, hA⟩ : ∃ A, cntA (cntN s.data.toList) = A := ⟨_, rfl⟩
      rw [hA] at hg h1 hs1
      have HAA := hid hA
      have HG := hid hg
      have HSZ := hid hs1
      have H1 := hid h1
      have HE2 := hid hE
      clear hg h1 hs1 hA e0
      go_wp2_with (first
        | (refine wpList_load_row rfl _ _ rfl (w.heap.size + 1) rfl _ A (0, 0) _ HG.out Try.underlying68 rfl (by rw [HSZ.out]; kernel_rfl) ?_)
        | (refine wpList_store_row rfl _ _ _ rfl w.heap.size A rfl rfl _ _ HG0.out (by rw [HSZ.out]; kernel_rfl) (by rw [HSZ.out, cntA_size]) H1.out ?_))
      have HF := hid (setRow_heap wr w.heap.size _ A _ _ HG0.out)
      refine bodyPost_ret (results_cell_row (p := 2) rfl _ _ w.heap.size _ A (0, 0) _ rfl HF.out Try.underlying68 rfl (by rw [HSZ.out]; kernel_rfl)) rfl ⟨by rw [HAA.out], HE2.out.setRow _ (Nat.le_refl _) _⟩
set_option maxHeartbeats 2000000 in
/-- The counts are those of the pile p. -/
theorem canMake_any (p : List UInt8) (s : ByteArray) (w : World) (hp : p.length ≤ 1048576) (hs : s.size ≤ 1048576) (ht : ∀ x ∈ s.data.toList, smallU x) :
    Calls Try.prog 47 #[.agg (cntA (cntN p)), .string s] w (Ret (.bool (canW p s.data.toList)) w) := by
  have HT := hid (take_byte s)
  have HGD := hid (getD_byte s)
  have HL := hid (fun k (h : k < s.size) => ht s[k] (by show s.data[k] ∈ s.data.toList; simp))
  have HCW : Hid (canW p s.data.toList = decide (needT p s.data.toList s.data.toList.length ≤ p.count 63)) := hid rfl
  have HNT : Hid (∀ i, needT p s.data.toList (i + 1) = needT p s.data.toList i + if p.count (s.data.toList.getD i 0) < (s.data.toList.take (i + 1)).count (s.data.toList.getD i 0) then 1 else 0) := hid (fun i => rfl)
  have HNL := hid (needT_le p s.data.toList)
  have h63 : p.count 63 ≤ 1048576 := Nat.le_trans List.count_le_length hp
  have hc1 : ∀ x, p.count x ≤ 1048576 := fun x => Nat.le_trans List.count_le_length hp
  have HC1 := hid hc1
  have HA0 := hid (cntA_get (cntN p) 0 (by omega))
  have HA1 := hid (cntA_size (cntN p))
  have HAZ : Hid (cntA (cntN p) = cntZ fun k => (cntN p k : Int) - (cntN (s.data.toList.take 0) k : Int)) := hid (by rw [cntA_Z]; exact cntZ_congr (fun k _ => by simp [cntN]))
  have HN0 : Hid (cntN p 0 = p.count 63) := hid rfl
  have HN00 : Hid (needT p s.data.toList 0 = 0) := hid rfl
  obtain ⟨A, hA⟩ : ∃ A, cntA (cntN p) = A := ⟨_, rfl⟩
  rw [hA] at HA0 HA1 HAZ ⊢
  clear ht hc1 hA
  have HB : Hid ((w.alloc (.cells A 68)).heap[w.heap.size]? = some (.cells A 68 (0, 0))) := hid (heap_alloc_new _ _)
  have hb0 : (w.alloc (.cells A 68)).cell? ⟨w.heap.size, 0, none⟩ = some (.int .i64 (p.count 63 : Nat)) := by
    rw [cell_of_row _ _ _ _ _ _ HB.out, HA0.out, HN0.out]
  obtain ⟨c0, hc0⟩ : ∃ c0, p.count 63 = c0 := ⟨_, rfl⟩
  rw [hc0] at hb0 h63 HCW
  clear hc0
  go_enter Try.func47, Try.ntmps47
  go_wp2_with fail
  go_loopw [5, 6] (fun b i wr => ∃ k : Nat, k ≤ s.size ∧ i = .int .i64 (k : Int) ∧ b = .int .i64 ((c0 : Int) - (needT p s.data.toList k : Nat)) ∧ wr.heap[w.heap.size]? = some (.cells (cntZ fun j => (cntN p j : Int) - (cntN (s.data.toList.take k) j : Int)) 68 (0, 0)) ∧ Ext w wr) (fun _ i _ => s.size - (intOf i).toNat)
  case atStart => exact ⟨0, by omega, rfl, by rw [HN00.out]; simp, by rw [← HAZ.out]; exact HB.out, (Ext.refl w).alloc _⟩
  case round =>
    clear hb0 HB
    obtain ⟨k, hk, rfl, rfl, hg, hE⟩ := hrel
    by_cases hlt : k < s.size
    · obtain ⟨L, hL⟩ : ∃ L, s.data.toList.take k = L := ⟨_, rfl⟩
      have hLl : L.length ≤ k := by rw [← hL]; simp; omega
      have hx := HL.out k hlt
      have HS := hid (HT.out k hlt)
      have hnt := HNT.out k
      rw [HGD.out k hlt, HT.out k hlt] at hnt
      rw [hL] at hg HS hnt
      obtain ⟨x, hxx⟩ : ∃ x, s[k] = x := ⟨_, rfl⟩
      rw [hxx] at hx HS hnt
      have hxb : x.toNat < 256 := x.toNat_lt
      have hpl := placeN_lt hx.tile
      have HP := hid (fun w => place_any (x.toNat : Int) w (by omega) (by omega))
      rw [placeI_of hx.tile] at HP
      have htn := tileN_placeN hx.tile
      obtain ⟨q, hq⟩ : ∃ q, placeN x = q := ⟨_, rfl⟩
      rw [hq] at HP htn
      have hq27 : (q : Int) < 27 := by omega
      have hqx : cntN L q = L.count x := by unfold cntN; rw [htn]
      have hqp : cntN p q = p.count x := by unfold cntN; rw [htn]
      have hcL : L.count x ≤ 1048576 := Nat.le_trans List.count_le_length (by omega)
      have hcp := HC1.out x
      obtain ⟨u, hu⟩ : ∃ u, L.count x = u := ⟨_, rfl⟩
      obtain ⟨v, hv⟩ : ∃ v, p.count x = v := ⟨_, rfl⟩
      obtain ⟨n0, hn0⟩ : ∃ n, needT p s.data.toList k = n := ⟨_, rfl⟩
      have hn0k : n0 ≤ k := by rw [← hn0]; exact HNL.out k
      have hub : u ≤ 1048576 := by omega
      have hvb : v ≤ 1048576 := by omega
      have hcell : wr.cell? ⟨w.heap.size, q, none⟩ = some (.int .i64 ((v : Int) - (u : Int))) := by
        rw [cell_of_row _ _ _ _ _ _ hg, cntZ_get _ _ (by omega), hqx, hqp, hu, hv]
      have hfr := frozen_of_row wr w.heap.size q _ _ hg
      rw [hn0] at hnt ⊢
      rw [List.count_append, List.count_singleton_self, hu, hv] at hnt
      have HG : Hid ((wr.setCell ⟨w.heap.size, q, none⟩ (.int .i64 ((v : Int) - (u : Int) - 1))).heap[w.heap.size]? = some (.cells (cntZ fun j => (cntN p j : Int) - (cntN (s.data.toList.take (k + 1)) j : Int)) 68 (0, 0))) := hid (by
        rw [heap_setCell_same _ _ _ _ _ _ hg, HS.out]
        congr 2
        rw [cntZ_set _ _ _ (by omega)]
        refine cntZ_congr (fun j hj => ?_)
        rw [cntN_snoc _ _ hx.tile _ hj, hq]
        by_cases e : j = q
        · subst e; rw [if_pos rfl, if_pos rfl, hqx, hqp, hu, hv]; omega
        · rw [if_neg e, if_neg e])
      have HE2 : Hid (Ext w (wr.setCell ⟨w.heap.size, q, none⟩ (.int .i64 ((v : Int) - (u : Int) - 1)))) := hid (hE.setCell (Nat.le_refl _) _)
      have hc2 : (wr.setCell ⟨w.heap.size, q, none⟩ (.int .i64 ((v : Int) - (u : Int) - 1))).cell? ⟨w.heap.size, q, none⟩ = some (.int .i64 ((v : Int) - (u : Int) - 1)) := World.cell?_setCell_same _ _ _ hcell
      have HN := hid hnt
      clear hg hL hq hpl hx HS HL HT htn hqx hqp hu hv hn0 hnt
      by_cases hneg : v < u + 1
      · have HN1 : Hid (needT p s.data.toList (k + 1) = n0 + 1) := hid (by rw [HN.out, if_pos hneg])
        have hni : (v : Int) - (u : Int) - 1 < 0 := by omega
        clear hneg
        go_wp2_with fail
        refine (HP.out _).mono ?_
        rintro e w' ⟨rfl, rfl⟩
        go_wp2_with fail
        go_roundw
        case rel => exact ⟨k + 1, by omega, by go_num, by rw [HN1.out]; go_num, HG.out, HE2.out⟩
        case measure => simp [intOf]; omega
      · have HN1 : Hid (needT p s.data.toList (k + 1) = n0) := hid (by rw [HN.out, if_neg hneg]; rfl)
        have hni : ¬ (v : Int) - (u : Int) - 1 < 0 := by omega
        clear hneg
        go_wp2_with fail
        refine (HP.out _).mono ?_
        rintro e w' ⟨rfl, rfl⟩
        go_wp2_with fail
        go_roundw
        case rel => exact ⟨k + 1, by omega, by go_num, by rw [HN1.out], HG.out, HE2.out⟩
        case measure => simp [intOf]; omega
    · obtain rfl : k = s.size := by omega
      have hln : s.data.toList.length = s.size := by simp
      have HCW2 : Hid (canW p s.data.toList = decide (needT p s.data.toList s.size ≤ c0)) := hid (by rw [HCW.out, hln])
      have hnl := HNL.out s.size
      obtain ⟨n0, hn0⟩ : ∃ n, needT p s.data.toList s.size = n := ⟨_, rfl⟩
      rw [hn0] at HCW2 hnl ⊢
      clear hn0 hg hln
      go_wp2_with fail
      go_returns
      exact ⟨ret_bool (by rw [HCW2.out]), hE⟩
end Go.Proofs.Ytaigabenlccdaaa
