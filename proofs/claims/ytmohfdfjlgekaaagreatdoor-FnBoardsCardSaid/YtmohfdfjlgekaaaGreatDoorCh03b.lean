/- Piles of letters, by the program: places of tiles, counts. Conditions: letters alone, at most 2^20. -/
import Derived.Test.YtmohfdfjlgekaaaGreatDoorMg6
import Derived.Test.YtmohfdfjlgekaaaGreatDoorCh11a
namespace Go.Proofs.YtmohfdfjlgekaaaGreatDoor
set_option linter.unusedVariables false
set_option linter.unusedSimpArgs false
open Go Go.RowKit
def letP (x : UInt8) : Prop := (97 ≤ x.toNat ∧ x.toNat ≤ 122) ∨ (65 ≤ x.toNat ∧ x.toNat ≤ 90)
def tilesL (l : List UInt8) : List UInt8 := l.map tileOf
def pileS (s : ByteArray) : ByteArray := ⟨(sortU (tilesL s.data.toList)).toArray⟩
def placeI (c : Int) : Int := if c = 63 then 0 else if 97 ≤ c ∧ c ≤ 122 then c - 96 else -1
def cntA (f : Nat → Nat) : Array Value := ((List.range 27).map fun k => Value.int .i64 (f k : Nat)).toArray
theorem cntA_size (f : Nat → Nat) : (cntA f).size = 27 := by simp [cntA]
theorem cntA_get (f : Nat → Nat) (k : Nat) (h : k < 27) : (cntA f)[k]? = some (.int .i64 (f k : Nat)) := by
  simp [cntA, h]
theorem cntA_set (f : Nat → Nat) (k n : Nat) (h : k < 27) : (cntA f).setIfInBounds k (.int .i64 (n : Nat)) = cntA fun j => if j = k then n else f j := by
  apply Array.ext
  · simp [cntA]
  · intro i h1 h2
    rw [Array.getElem_setIfInBounds (by simpa [cntA] using h1)]
    by_cases e : k = i
    · subst e; simp [cntA]
    · rw [if_neg e]; simp [cntA, Ne.symm e]
theorem cntA_congr {f f' : Nat → Nat} (h : ∀ k, k < 27 → f k = f' k) : cntA f = cntA f' := by
  unfold cntA
  congr 1
  apply List.map_congr_left
  intro k hk
  rw [h k (List.mem_range.1 hk)]
theorem place_any (c : Int) (w : World) (h0 : 0 ≤ c) (h1 : c < 256) : Calls Tryz.prog 77 #[.int .u8 c] w (Same (.int .i64 (placeI c)) w) := by
  have H : Hid (placeI c = if c = 63 then 0 else if 97 ≤ c ∧ c ≤ 122 then c - 96 else -1) := hid rfl
  by_cases h : c = 63
  · subst h
    go_enter Tryz.func77, Tryz.ntmps77
    go_wp2_with fail
    go_returns
    exact ⟨ret_int (by decide), rfl⟩
  · have hq : (c == 63) = false := by simpa using h
    have HQ := hid h
    clear h
    by_cases h2 : 97 ≤ c ∧ c ≤ 122
    · obtain ⟨a1, a2⟩ := h2
      have w8 : IntKind.u8.wrap (c - 97) = c - 97 := by simp [IntKind.wrap, IntKind.bits, IntKind.signed]; omega
      have hs : smallB c = true := by simp [smallB]; omega
      have HA := hid (small_any c)
      rw [hs] at HA
      clear hs
      go_enter Tryz.func77, Tryz.ntmps77
      go_wp2_with fail
      refine (HA.out _).mono ?_
      rintro e w' ⟨rfl, rfl⟩
      go_wp2_with fail
      go_returns
      exact ⟨ret_int (by rw [H.out, if_neg HQ.out, if_pos ⟨a1, a2⟩]; omega), rfl⟩
    · have hs : smallB c = false := by simp [smallB]; omega
      have HA := hid (small_any c)
      rw [hs] at HA
      have H2 := hid h2
      clear hs h2
      go_enter Tryz.func77, Tryz.ntmps77
      go_wp2_with fail
      refine (HA.out _).mono ?_
      rintro e w' ⟨rfl, rfl⟩
      go_wp2_with fail
      go_returns
      exact ⟨ret_int (by rw [H.out, if_neg HQ.out, if_neg H2.out]), rfl⟩
theorem tileAt_any (k : Nat) (w : World) (h : k < 27) : Calls Tryz.prog 108 #[.int .i64 (k : Int)] w (Same (.int .u8 ((tileN k).toNat : Int)) w) := by
  have H := hid (tileN_toNat k h)
  by_cases h0 : k = 0
  · subst h0
    go_enter Tryz.func108, Tryz.ntmps108
    go_wp2_with fail
    go_returns
    exact ⟨ret_int (by rw [H.out]; rfl), rfl⟩
  · have hq : ((k : Int) == 0) = false := by simp; omega
    have HQ := hid h0
    have w8 : IntKind.u8.wrap (97 + (k : Int) - 1) = 97 + (k : Int) - 1 := by simp [IntKind.wrap, IntKind.bits, IntKind.signed]; omega
    clear h0
    go_enter Tryz.func108, Tryz.ntmps108
    go_wp2_with fail
    go_returns
    exact ⟨ret_int (by rw [H.out, if_neg HQ.out]; omega), rfl⟩
theorem run_index_cnt (A : Array Value) (k : Nat) (v : Value) (hA : A[k]? = some v) (hk : k < 27) (w : World) : (Instr.index 92 (.agg A) (.int .i64 (k : Int))).run Tryz.prog w = .ok v w := by
  unfold Instr.index
  simp only [asIntOf, Sem.run_bind, Sem.run_pure, Result.andThen_ok]
  go_simp
theorem pileN_mono (f : Nat → Nat) (m : Nat) (h : m ≤ 27) : (pileN f m).length ≤ (pileN f 27).length := by
  have : ∀ d, (pileN f m).length ≤ (pileN f (m + d)).length := by
    intro d
    induction d with
    | zero => exact Nat.le_refl _
    | succ d ih =>
      rw [← Nat.add_assoc, pileN_succ, List.length_append]
      omega
  have := this (27 - m)
  rwa [show m + (27 - m) = 27 by omega] at this
set_option maxRecDepth 100000 in
set_option maxHeartbeats 1000000 in
theorem pile_any (f : Nat → Nat) (w : World) (hf : (pileN f 27).length ≤ 1048576) :
    Calls Tryz.prog 78 #[.agg (cntA f)] w (Ret (.string ⟨(pileN f 27).toArray⟩) w) := by
  obtain ⟨A, hA⟩ : ∃ A, cntA f = A := ⟨_, rfl⟩
  have HZ : Hid (A.size = 27) := hid (by rw [← hA]; exact cntA_size _)
  have HI : Hid (∀ k, k < 27 → A[k]? = some (.int .i64 (f k : Nat))) := hid (fun k h => by rw [← hA]; exact cntA_get _ _ h)
  have HM := hid (pileN_mono f)
  obtain ⟨X, hX⟩ : ∃ X, pileN f 27 = X := ⟨_, rfl⟩
  have HX := hid hX
  rw [hA]
  rw [hX] at hf ⊢
  clear hA hX
  have HF := hid hf
  clear hf
  go_enter Tryz.func78, Tryz.ntmps78
  go_wp2_with (refine wpList_load_row rfl _ _ rfl w.heap.size rfl _ A (0, 0) _ (heap_alloc2_old _ _ _) Tryz.underlying92 rfl (by rw [HZ.out]; kernel_rfl) ?_)
  go_loopw [7] (fun v wr => ∃ k : Nat, k ≤ 27 ∧ v = .int .i64 (k : Int) ∧ Hid (Lib.IsBuilderF 100 5 (w.heap.size + 1) (w.heap.size + 1) (Lib.byteCells (pileN f k)) wr) ∧ Ext (w.alloc (.cells A 92)) wr) (fun v _ => 27 - (intOf v).toNat)
  case atStart => exact ⟨0, by omega, rfl, hid (Lib.IsBuilderF.of (by simpa [pileN, Lib.byteCells] using Lib.fresh_isBuilder 100 5 (w.alloc (.cells A 92)))), (Ext.refl _).alloc _⟩
  case round =>
    obtain ⟨k, hk, rfl, hb, hx⟩ := hrel
    have hsz := hx.size
    simp only [World.size_alloc] at hsz
    by_cases hlt : k < 27
    · have hlt2 : (k : Int) < 27 := by omega
      have hget := HI.out k hlt
      obtain ⟨n, hn⟩ : ∃ n, f k = n := ⟨_, rfl⟩
      rw [hn] at hget
      have HP : Hid (pileN f (k + 1) = pileN f k ++ List.replicate n (tileN k)) := hid (by rw [pileN_succ, hn])
      have HLE : Hid ((pileN f k).length + n ≤ 1048576) := hid (by
        have h1 := HF.out
        have h2 := HM.out (k + 1) (by omega)
        rw [HX.out, HP.out, List.length_append, List.length_replicate] at h2
        omega)
      have hn2 : n ≤ 1048576 := by have := HLE.out; omega
      have HK := hid hlt
      have hix := run_index_cnt A k _ hget hlt
      clear hn hlt hget
      go_wp2_with fail
      go_loopw [5] (fun v wq => ∃ j : Nat, j ≤ n ∧ v = .int .i64 (j : Int) ∧ Hid (Lib.IsBuilderF 100 5 (w.heap.size + 1) (w.heap.size + 1) (Lib.byteCells (pileN f k ++ List.replicate (n - j) (tileN k))) wq) ∧ Ext (w.alloc (.cells A 92)) wq) (fun v _ => (intOf v).toNat)
      case atStart => exact ⟨n, Nat.le_refl _, rfl, hid (by simpa using hb.out), hx⟩
      case round =>
        obtain ⟨j, hj, rfl, hb1, hx1⟩ := hrel
        have hsz1 := hx1.size
        simp only [World.size_alloc] at hsz1
        by_cases hj0 : 0 < j
        · have hj1 : (0 : Int) < (j : Int) := by omega
          obtain ⟨z, hz⟩ : ∃ z : Int, ((tileN k).toNat : Int) = z := ⟨_, rfl⟩
          have HTA := hid (tileAt_any k)
          rw [hz] at HTA
          have hz0 : 0 ≤ z := by omega
          have hz1 : z < 256 := by have := (tileN k).toNat_lt; omega
          have HZ := hid hz
          clear hz
          go_wp2_with fail
          refine (HTA.out _ HK.out).mono ?_
          rintro e w' ⟨rfl, rfl⟩
          go_wp2_with fail
          refine (Any.Builder_WriteByte_k Tryz.laysH167 Tryz.Builder_Extra_H167 (w.heap.size + 1) (w.heap.size + 1) _ z _ hb1.out (by rw [Lib.byteCells_length, List.length_append, List.length_replicate]; have := HLE.out; omega) (by omega)).mono ?_
          rintro e w2 ⟨rfl, hb2, hbel, -⟩
          have HB2 := hid hb2
          clear hb2
          go_wp2_with fail
          go_roundw
          case rel =>
            refine ⟨j - 1, by omega, by rw [show (((j - 1 : Nat) : Int)) = (j : Int) - 1 by omega], hid ?_, hx1.thenBelow hbel (by simp)⟩
            have h2 := HB2.out
            rw [← HZ.out] at h2
            have e : pileN f k ++ List.replicate (n - (j - 1)) (tileN k) = pileN f k ++ List.replicate (n - j) (tileN k) ++ [tileN k] := by
              rw [show n - (j - 1) = (n - j) + 1 by omega, List.replicate_succ', List.append_assoc]
            rw [e, Lib.byteCells, List.map_append]
            exact .inr h2
          case measure => simp [intOf]; omega
        · obtain rfl : j = 0 := by omega
          go_wp2_with fail
          go_roundw
          case rel => exact ⟨k + 1, by have := HK.out; omega, by go_num, hid (by rw [HP.out]; simpa using hb1.out), hx1⟩
          case measure => simp [intOf]; have := HK.out; omega
    · have hk27 : k = 27 := by omega
      rw [hk27, HX.out] at hb
      have HF2 := hid HF.out
      have hk28 : ¬ (k : Int) < 27 := by omega
      clear hk27
      go_wp2_with fail
      have hXl : X.length ≤ 1048576 := HF2.out
      refine (Any.Builder_String_any_k Tryz.laysH169 Tryz.Builder_Extra_H169 (w.heap.size + 1) (w.heap.size + 1) _ _ hb.out (by omega)).mono ?_
      rintro e w2 ⟨rfl, -, hbel, -⟩
      go_wp2_with fail
      go_returns
      exact ⟨rfl, (((Ext.refl w).alloc _).trans hx).thenBelow hbel (by omega)⟩
theorem tilesL_snoc (s : ByteArray) (k : Nat) (h : k < s.size) : tilesL (s.data.toList.take (k + 1)) = tilesL (s.data.toList.take k) ++ [tileOf s[k]] := by
  have e : s.data.toList.take (k + 1) = s.data.toList.take k ++ [s[k]] := by
    rw [List.take_succ_eq_append_getElem (by simpa using h)]; rfl
  unfold tilesL
  rw [e, List.map_append]
  rfl
set_option maxHeartbeats 1000000 in
theorem tilesOf_any (s : ByteArray) (w : World) (hs : s.size ≤ 1048576) (hl : ∀ x ∈ s.data.toList, letP x) :
    Calls Tryz.prog 37 #[.string s] w (Ret (.string (pileS s)) w) := by
  have HT := hid (tilesL_snoc s)
  have HL := hid (fun k (h : k < s.size) => hl s[k] (by show s.data[k] ∈ s.data.toList; simp))
  have HP : Hid (pileS s = ⟨(sortU (tilesL s.data.toList)).toArray⟩) := hid rfl
  have HA : Hid (∀ x ∈ tilesL s.data.toList, isTile x) := hid (fun x hx => by
    obtain ⟨y, hy, rfl⟩ := List.mem_map.1 hx
    exact tileOf_tile y (hl y hy))
  clear hl
  go_enter Tryz.func37, Tryz.ntmps37
  go_wp2_with fail
  go_loopw [4] (fun i wr => ∃ k : Nat, k ≤ s.size ∧ i = .int .i64 (k : Int) ∧ wr.heap[w.heap.size]? = some (.cells (cntA (cntN (tilesL (s.data.toList.take k)))) 92 (0, 0)) ∧ Ext w wr) (fun i _ => s.size - (intOf i).toNat)
  case atStart => exact ⟨0, by omega, rfl, (heap_alloc_new _ _).trans rfl, (Ext.refl w).alloc _⟩
  case round =>
    obtain ⟨k, hk, rfl, hg, hE⟩ := hrel
    by_cases hlt : k < s.size
    · obtain ⟨L, hL⟩ : ∃ L, tilesL (s.data.toList.take k) = L := ⟨_, rfl⟩
      have hLl : L.length ≤ k := by rw [← hL]; simp [tilesL]; omega
      have hx := HL.out k hlt
      have HS := hid (HT.out k hlt)
      rw [hL] at hg HS
      clear hL
      obtain ⟨x, hxx⟩ : ∃ x, s[k] = x := ⟨_, rfl⟩
      have hidx : s.data.toList[k]? = some x := by rw [List.getElem?_eq_getElem (by simpa using hlt)]; exact congrArg some hxx
      rw [hxx] at hx HS
      have hxb : x.toNat < 256 := x.toNat_lt
      have hti := tileOf_tile x hx
      have hpl := placeN_lt hti
      obtain ⟨p, hp⟩ : ∃ p, placeN (tileOf x) = p := ⟨_, rfl⟩
      have hp27 : (p : Int) < 27 := by omega
      have hcv : cntN L p ≤ k := Nat.le_trans List.count_le_length hLl
      obtain ⟨v, hv⟩ : ∃ v, cntN L p = v := ⟨_, rfl⟩
      have hvk : v ≤ k := by rw [← hv]; exact hcv
      have hcell : wr.cell? ⟨w.heap.size, p, none⟩ = some (.int .i64 (v : Int)) := by
        rw [cell_of_row _ _ _ _ _ _ hg, cntA_get _ _ (by omega), hv]
      have hfr := frozen_of_row wr w.heap.size p _ _ hg
      have HG : Hid ((wr.setCell ⟨w.heap.size, p, none⟩ (.int .i64 ((v : Int) + 1))).heap[w.heap.size]? = some (.cells (cntA (cntN (tilesL (s.data.toList.take (k + 1))))) 92 (0, 0))) := hid (by
        rw [heap_setCell_same _ _ _ _ _ _ hg, HS.out]
        congr 2
        rw [show ((v : Int) + 1) = ((v + 1 : Nat) : Int) by omega, cntA_set _ _ _ (by omega)]
        refine cntA_congr (fun j hj => ?_)
        rw [cntN_snoc _ _ hti _ hj, hp]
        by_cases e : j = p
        · subst e; rw [if_pos rfl, if_pos rfl, hv]
        · rw [if_neg e, if_neg e])
      have HE2 : Hid (Ext w (wr.setCell ⟨w.heap.size, p, none⟩ (.int .i64 ((v : Int) + 1)))) := hid (hE.setCell (Nat.le_refl _) _)
      have HI := hid hidx
      clear hg hv hidx
      by_cases hcap : 65 ≤ x.toNat ∧ x.toNat ≤ 90
      · have hp0 : p = 0 := by rw [← hp]; unfold tileOf placeN; rw [if_pos hcap]; rfl
        subst hp0
        have hcb : capB (x.toNat : Int) = true := by simp [capB]; omega
        have HC := hid (capital_any (x.toNat : Int))
        rw [hcb] at HC
        obtain ⟨c1, c2⟩ := hcap
        clear hcb hp hti hx HS hpl
        go_wp2_with fail
        refine (HC.out _).mono ?_
        rintro e w' ⟨rfl, rfl⟩
        go_wp2_with fail
        go_roundw
        case rel => exact ⟨k + 1, by omega, by go_num, HG.out, HE2.out⟩
        case measure => simp [intOf]; omega
      · have hpi : placeI (x.toNat : Int) = (p : Int) := by
          rw [← hp]
          have hto : tileOf x = x := by unfold tileOf; rw [if_neg hcap]
          rw [hto]
          unfold placeI placeN
          rcases hx with hx | hx
          · rw [if_neg (by omega), if_pos (by omega), if_neg (by omega)]; omega
          · exact absurd hx hcap
        have HQ := hid (place_any (x.toNat : Int))
        rw [hpi] at HQ
        have hcb : capB (x.toNat : Int) = false := by simp [capB]; omega
        have HC := hid (capital_any (x.toNat : Int))
        rw [hcb] at HC
        clear hcb hp hti hx HS hpi hcap
        go_wp2_with fail
        refine (HC.out _).mono ?_
        rintro e w' ⟨rfl, rfl⟩
        go_wp2_with fail
        refine (HQ.out _ (by omega) (by omega)).mono ?_
        rintro e w' ⟨rfl, rfl⟩
        go_wp2_with fail
        go_roundw
        case rel => exact ⟨k + 1, by omega, by go_num, HG.out, HE2.out⟩
        case measure => simp [intOf]; omega
    · obtain rfl : k = s.size := by omega
      have e0 : s.data.toList.take s.size = s.data.toList := List.take_of_length_le (by simp)
      rw [e0] at hg
      have hq := (pile_any (cntN (tilesL s.data.toList)) wr (by rw [pileN_length _ HA.out]; simp [tilesL]; exact hs))
      rw [pile_sort _ HA.out] at hq
      obtain ⟨A, hA⟩ : ∃ A, cntA (cntN (tilesL s.data.toList)) = A := ⟨_, rfl⟩
      have hsz : A.size = 27 := by rw [← hA]; exact cntA_size _
      rw [hA] at hg hq
      have HQ := hid hq
      have HG := hid hg
      have HZ := hid hsz
      clear hg hq hA hsz e0
      go_wp2_with (refine wpList_load_row rfl _ _ rfl w.heap.size rfl _ A (0, 0) _ HG.out Tryz.underlying92 rfl (by rw [HZ.out]; kernel_rfl) ?_)
      refine HQ.out.mono ?_
      rintro e w1 ⟨rfl, hx⟩
      go_wp2_with fail
      go_returns
      exact ⟨by rw [HP.out]; rfl, hE.trans hx⟩
end Go.Proofs.YtmohfdfjlgekaaaGreatDoor
