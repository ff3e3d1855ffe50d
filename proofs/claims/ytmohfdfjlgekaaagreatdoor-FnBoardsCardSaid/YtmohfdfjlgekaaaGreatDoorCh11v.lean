/- The words of a board, by both. Conditions stand at each. -/
import Derived.Test.YtmohfdfjlgekaaaGreatDoorMg2
import Derived.Test.YtmohfdfjlgekaaaGreatDoorMg3
import Derived.Test.YtmohfdfjlgekaaaGreatDoorMg4
import Derived.Test.YtmohfdfjlgekaaaGreatDoorCh03s
import Derived.Test.YtmohfdfjlgekaaaGreatDoorMg5
namespace Go.Proofs.YtmohfdfjlgekaaaGreatDoor
set_option linter.unusedVariables false
set_option linter.unusedSimpArgs false
open Go Go.RowKit
def wordsP (l : List ByteArray) : List ByteArray := (l.filter fun x => decide (2 ≤ x.size)).map lowA
def wordsN (n : Nat) (c : ByteArray) (k : Nat) : List ByteArray := (rowsL n c k).flatMap fun r => wordsP (splitC 46 r)
theorem wordsP_succ (l : List ByteArray) (j : Nat) (h : j < l.length) : wordsP (l.take (j + 1)) = wordsP (l.take j) ++ if 2 ≤ l[j].size then [lowA l[j]] else [] := by
  unfold wordsP
  rw [List.take_succ_eq_append_getElem h, List.filter_append, List.map_append]
  congr 1
  by_cases hz : 2 ≤ l[j].size <;> simp [hz]
theorem wordsN_succ (n : Nat) (c : ByteArray) (k : Nat) : wordsN n c (k + 1) = wordsN n c k ++ wordsP (splitC 46 (rowAt n c k)) := by
  unfold wordsN
  rw [rowsL_succ, List.flatMap_append]
  simp
theorem wordsP_le (l : List ByteArray) : (wordsP l).length ≤ l.length := by
  unfold wordsP
  rw [List.length_map]
  exact List.length_filter_le ..
theorem rowAt_le (n : Nat) (s : ByteArray) (k : Nat) : (rowAt n s k).size ≤ n := by
  unfold rowAt
  rw [ByteArray.size_extract]
  omega
theorem wordsN_le (n : Nat) (c : ByteArray) (h : n ≤ 15) (k : Nat) : (wordsN n c k).length ≤ k * 16 := by
  induction k with
  | zero => simp [wordsN, rowsL]
  | succ k ih =>
    rw [wordsN_succ, List.length_append]
    have h1 := wordsP_le (splitC 46 (rowAt n c k))
    have h2 := splitC_length_le 46 (rowAt n c k)
    have h3 := rowAt_le n c k
    omega
def Asc (s : ByteArray) : Prop := ∀ x ∈ s.data.toList, x.toNat < 128
theorem Asc.sub {s : ByteArray} (h : Asc s) (a b : Nat) : Asc (s.extract a b) := by
  intro x hx
  refine h x ?_
  rw [ByteArray.data_extract, Array.toList_extract] at hx
  simp only [List.extract] at hx
  exact List.mem_of_mem_drop (List.mem_of_mem_take hx)
theorem Asc.at {s : ByteArray} (h : Asc s) : ∀ (j : Nat) (b : UInt8), s.data.toList[j]? = some b → b.toNat < 128 := fun j b hb => h b (List.mem_of_getElem? hb)
theorem asc_cell {c : ByteArray} (h : allB cellB c = true) : Asc c := by
  intro x hx
  have := List.all_eq_true.1 h x hx
  unfold cellB smallB capB at this
  simp only [Bool.or_eq_true, decide_eq_true_eq] at this
  omega
theorem asc_turn {n : Nat} {c : ByteArray} (hc : c.size = n * n) (hn : 0 < n) (h : Asc c) : Asc (turnS n c) := by
  intro x hx
  obtain ⟨t, ht⟩ := List.getElem?_of_mem hx
  have htl : t < (turnS n c).size := by
    have := (List.getElem?_eq_some_iff.1 ht).1
    simpa using this
  rw [at_someC htl] at ht
  have hx2 : bAt (turnS n c) t = x := by simpa using ht
  rw [turnS_size] at htl
  have h1 : t / n < n := Nat.div_lt_of_lt_mul htl
  have h2 : t % n < n := Nat.mod_lt _ hn
  have h3 : t / n * n + t % n = t := by rw [Nat.mul_comm]; exact Nat.div_add_mod t n
  have h4 : bAt (turnS n c) (t / n * n + t % n) = bAt c (t % n * n + t / n) := turnL_get n c (t / n) (t % n) h1 h2 n h1
  rw [h3, hx2] at h4
  have h5 : t % n * n + t / n < c.size := by
    rw [hc]
    have : (t % n + 1) * n ≤ n * n := Nat.mul_le_mul_right n h2
    rw [Nat.add_mul, Nat.one_mul] at this
    omega
  have h6 := at_someC h5
  rw [← h4] at h6
  exact h x (List.mem_of_getElem? h6)
def wonL (n : Int) (p c : ByteArray) : List ByteArray := if okB n p c then wordsN n.toNat c n.toNat ++ wordsN n.toNat (turnS n.toNat c) n.toNat else []
def wonC (n : Int) (p c : ByteArray) : Int := if okB n p c then 0 else 1
theorem wonL_le (n : Int) (p c : ByteArray) : (wonL n p c).length ≤ 480 := by
  unfold wonL
  split
  · rename_i h
    obtain ⟨h1, h2, -⟩ := okB_true h
    have a1 := wordsN_le n.toNat c (by omega) n.toNat
    have a2 := wordsN_le n.toNat (turnS n.toNat c) (by omega) n.toNat
    rw [List.length_append]
    omega
  · simp
/-- A list of the call's own comes back, and a code. -/
def RetWd (l : List ByteArray) (k : Int) (w : World) (e : Ending) (w' : World) : Prop := ∃ a c, e = .returned (.tuple #[.slice a l.length c, .int .i64 k]) ∧ OwnR w' w.heap.size a (strsV l) ∧ Ext w w'
set_option maxRecDepth 100000 in
set_option maxHeartbeats 2000000 in
theorem l11Words_any (b o : Nat) (n : Nat) (p c : ByteArray) (w : World) (hB : BdAt w b o n p c) (h1 : 5 ≤ n) (h2 : n ≤ 15) (hc : c.size = n * n) :
    Calls Tryz.prog 35 #[.pointer (some ⟨b, o, none⟩)] w (RetStrs (wordsN n c n) w) := by
  have HB := hid hB
  have HL := hid (fun k (w' : World) (h : BdAt w' b o n p c) (hk : k < n) => l11Line_any b o n p c k w' h h1 h2 hc hk)
  have HW0 : Hid (wordsN n c 0 = []) := hid (by simp [wordsN, rowsL])
  have HWS := hid (wordsN_succ n c)
  have HRL := hid (rowAt_le n c)
  have HPS := hid wordsP_succ
  have HSL := hid (splitC_length_le 46)
  have HSUB := hid (splitC_sub 46)
  have HSL1 : Hid (∀ s, 0 < (splitC 46 s).length) := hid (fun s => by rw [splitC_length]; omega)
  clear hc
  go_enter Tryz.func35, Tryz.ntmps35
  go_wp2_with fail
  go_loopw [3, 4] (fun v i wr => ∃ (k cap g : Nat) (T : List ByteArray), k ≤ n ∧ i = .int .i64 k ∧ v = .slice (some ⟨g, 0, none⟩) T.length cap ∧ T.length ≤ k * 20 ∧ Hid (T = wordsN n c k) ∧ Hid (Out wr w.heap.size g cap T) ∧ Ext w wr) (fun _ i _ => n - (intOf i).toNat)
  case atStart => exact ⟨0, 0, w.heap.size, [], by omega, rfl, rfl, by simp, hid HW0.out.symm, hid (Out.nil _ _ _ (Nat.le_refl _) (by simp)), (Ext.refl _).alloc _⟩
  case round =>
    obtain ⟨k, cap, g, T, hk, rfl, rfl, hT, HT, HO, hE⟩ := hrel
    have HBB := hid (HB.out.ext hE)
    obtain ⟨b0, b1, b2⟩ := HBB.out
    by_cases hlt : k < n
    · have hrs := HRL.out k
      have HLk := hid (HL.out k _ HBB.out hlt)
      have HWk := hid (HWS.out k)
      obtain ⟨R, hR⟩ : ∃ R, rowAt n c k = R := ⟨_, rfl⟩
      rw [hR] at hrs HLk HWk
      have HSp := hid (fun w' => l01Split_c 46 R w' (by omega))
      have hsl := HSL.out R
      have hsl1 := HSL1.out R
      have HSB := hid (HSUB.out R)
      have hRs : R.size ≤ 15 := by omega
      obtain ⟨Q, hQ⟩ : ∃ Q, splitC 46 R = Q := ⟨_, rfl⟩
      rw [hQ] at hsl hsl1 HSp HWk HSB
      clear hR hQ hrs
      go_wp2_with fail
      refine HLk.out.mono ?_
      rintro e w1 ⟨rfl, hD⟩
      replace hE := hE.trans hD.ext
      replace HO := hid (HO.out.ext hD.ext)
      clear hD HBB b0 b1 b2
      go_wp2_with fail
      refine (HSp.out _).mono ?_
      rintro e w2 ⟨aq, cq, rfl, hoq, hx⟩
      obtain ⟨q, rfl, hq1, hq⟩ := Rq.of (w' := w2) hoq (by omega)
      have hqg : q ≠ g := by have := HO.out.2.2; omega
      replace hE := hE.trans hx
      replace HO := hid (HO.out.ext hx)
      have HQ := hid hq
      clear hx hoq hq hq1
      go_wp2_with fail
      go_loopw [3, 6] (fun v i wr => ∃ (j cap g : Nat) (U : List ByteArray), j ≤ Q.length ∧ i = .int .i64 j ∧ v = .slice (some ⟨g, 0, none⟩) U.length cap ∧ U.length ≤ k * 20 + j ∧ Hid (U = T ++ wordsP (Q.take j)) ∧ Hid (Out wr w.heap.size g cap U) ∧ Ext w wr ∧ Hid (Rq wr q Q) ∧ q ≠ g) (fun _ i _ => Q.length - (intOf i).toNat)
      case atStart => exact ⟨0, cap, g, T, by omega, rfl, rfl, by omega, hid (by simp [wordsP]), HO, hE, HQ, hqg⟩
      case round =>
        clear hE HO HQ hT hqg
        obtain ⟨j, cap, g, U, hj, rfl, rfl, hU, HU, HO, hE, HQ, hqg⟩ := hrel
        have hzw := hE.size
        by_cases hjl : j < Q.length
        · have cj := HQ.out.at j hjl
          have HPj := hid (HPS.out Q j hjl)
          obtain ⟨x, hx⟩ : ∃ x, Q[j] = x := ⟨_, rfl⟩
          have hxz : x.size ≤ 15 := by
            obtain ⟨y1, y2, y3, y4, y5⟩ := HSB.out Q[j] (List.getElem_mem _)
            rw [← hx, y5, ByteArray.size_extract]
            omega
          rw [hx] at cj HPj
          have HSm := hid (fun w' => l03Small_any x w' (by omega))
          clear hx
          by_cases hz : 2 ≤ x.size
          · have hz1 : (1 : Int) < (x.size : Int) := by omega
            go_wp2_with fail
            refine (HSm.out _).mono ?_
            rintro e w3 ⟨rfl, hx3⟩
            have HO3 := hid (HO.out.ext hx3)
            have hE3 := hE.trans hx3
            have HQ3 := hid (HQ.out.ext hx3)
            have hz3 := hE3.size
            clear hx3 cj
            have hown := HO3.out.1
            have hg3 := HO3.out.2
            go_wp2_with (at_builtin; refine wpList_pushS rfl _ _ 27 rfl El_str rfl [_] rfl rfl (by simp [Value.oneCell']) hown (by omega) (by unfold maxLen; omega) (by omega) ?_; intro g8 c8 w8 hown8 hgrow8 hsep8; have HO4 := hid hown8; have HG := hid hgrow8; clear hown hown8 hgrow8)
            have HO5 := hid (HO3.out.push HO4.out)
            have hq8 := sep_ne HQ3.out.2 hqg hsep8
            have HQ4 := hid (HQ3.out.push HG.out hqg)
            have hE4 := ext_pushed hE3 HG.out hg3.1
            clear HO3 HO4 HG HQ3 hsep8
            go_roundw
            case rel => exact ⟨j + 1, c8, g8, U ++ [lowA x], by omega, by go_num, by rw [List.length_append]; rfl, by rw [List.length_append]; simp; omega, hid (by rw [HPj.out, if_pos hz, HU.out, List.append_assoc]), HO5, hE4, HQ4, hq8⟩
            case measure => simp [intOf]; omega
          · have hz1 : ¬ (1 : Int) < (x.size : Int) := by omega
            go_wp2_with fail
            go_roundw
            case rel => exact ⟨j + 1, cap, g, U, by omega, by go_num, rfl, by omega, hid (by rw [HPj.out, if_neg hz, List.append_nil]; exact HU.out), HO, hE, HQ, hqg⟩
            case measure => simp [intOf]; omega
        · obtain rfl : j = Q.length := by omega
          have HU2 : Hid (U = wordsN n c (k + 1)) := hid (by rw [HU.out, HWk.out, ← HT.out, List.take_length])
          go_wp2_with fail
          go_roundw
          case rel => exact ⟨k + 1, cap, g, U, by omega, by go_num, rfl, by omega, HU2, HO, hE⟩
          case measure => simp [intOf]; omega
    · obtain rfl : k = n := by omega
      go_wp2_with fail
      go_returns
      exact ⟨_, cap, by rw [← HT.out]; rfl, by rw [← HT.out]; exact HO.out.1, hE⟩
set_option maxRecDepth 100000 in
set_option maxHeartbeats 2000000 in
theorem sWordsOn_any (n : Int) (p c : ByteArray) (w : World) (hp : p.size ≤ 1048576) (hc : c.size ≤ 1048576) : Calls Tryz.prog 8 #[boardV n p c] w (RetWd (wonL n p c) (wonC n p c) w) := by
  have HB0 : Hid (BdAt (w.alloc (.cells #[.int .i64 n, .string p, .string c] 25)) w.heap.size 0 n p c) := hid ⟨by simp, by simp, by simp⟩
  have HO := hid (l11Ok_any w.heap.size 0 n p c _ HB0.out hp hc)
  cases hk : okB n p c
  · have HV : Hid (wonL n p c = [] ∧ wonC n p c = 1) := hid (by unfold wonL wonC; rw [hk]; exact ⟨rfl, rfl⟩)
    rw [hk] at HO
    clear hk
    go_enter Tryz.func8, Tryz.ntmps8
    go_wp2_with fail
    refine HO.out.mono ?_
    rintro e w1 ⟨rfl, hD⟩
    have hE := ((Ext.refl w).alloc (.cells #[.int .i64 n, .string p, .string c] 25)).trans hD.ext
    clear hD
    go_wp2_with fail
    go_returns
    exact ⟨none, 0, by rw [HV.out.1, HV.out.2]; rfl, by rw [HV.out.1]; exact .inl rfl, hE⟩
  · obtain ⟨h1, h2, h3, h4⟩ := okB_true hk
    obtain ⟨m, rfl⟩ := nat_of h1
    have hp2 : p.size = m * m := by have : ((m * m : Nat) : Int) = (m : Int) * m := by push_cast; rfl
                                    omega
    have hc2 : c.size = m * m := by have : ((m * m : Nat) : Int) = (m : Int) * m := by push_cast; rfl
                                    omega
    have hm5 : 5 ≤ m := by omega
    have hm15 : m ≤ 15 := by omega
    have HV : Hid (wonL m p c = wordsN m c m ++ wordsN m (turnS m c) m ∧ wonC m p c = 0) := hid (by unfold wonL wonC; rw [hk]; exact ⟨rfl, rfl⟩)
    have HT := hid (fun (w' : World) (h : BdAt w' w.heap.size 0 m p c) => l11Transpose_any w.heap.size 0 m p c w' h hp2 hc2 hm5 hm15)
    have HW1 := hid (fun (w' : World) (h : BdAt w' w.heap.size 0 m p c) => l11Words_any w.heap.size 0 m p c w' h hm5 hm15 hc2)
    have HW2 := hid (fun (b : Nat) (w' : World) (h : BdAt w' b 0 m (turnS m p) (turnS m c)) => l11Words_any b 0 m _ _ w' h hm5 hm15 (turnS_size m c))
    have hl1 := wordsN_le m c hm15 m
    have hl2 := wordsN_le m (turnS m c) hm15 m
    obtain ⟨L1, hL1⟩ : ∃ L, wordsN m c m = L := ⟨_, rfl⟩
    obtain ⟨L2, hL2⟩ : ∃ L, wordsN m (turnS m c) m = L := ⟨_, rfl⟩
    rw [hL1] at HW1 HV hl1
    rw [hL2] at HW2 HV hl2
    rw [hk] at HO
    unfold boardV at HT
    clear hk h3 h4 hp2 hc2 hL1 hL2
    go_enter Tryz.func8, Tryz.ntmps8
    go_wp2_with fail
    refine HO.out.mono ?_
    rintro e w1 ⟨rfl, hD⟩
    have hE := ((Ext.refl w).alloc (.cells #[.int .i64 m, .string p, .string c] 25)).trans hD.ext
    have HB1 := hid (HB0.out.ext hD.ext)
    clear hD
    go_wp2_with fail
    refine (HT.out _ HB1.out).mono ?_
    rintro e w2 ⟨rfl, hx⟩
    replace hE := hE.trans hx
    replace HB1 := hid (HB1.out.ext hx)
    clear hx
    go_wp2_with fail
    have hz2 := hE.size
    have HBT : Hid (BdAt (w2.alloc (.cells #[.int .i64 m, .string (turnS m p), .string (turnS m c)] 25)) w2.heap.size 0 m (turnS m p) (turnS m c)) := hid ⟨by simp, by simp, by simp⟩
    refine (HW1.out _ (HB1.out.ext ((Ext.refl w2).alloc _))).mono ?_
    rintro e w3 ⟨a3, c3, rfl, ho3, hx⟩
    replace HBT := hid (HBT.out.ext hx)
    replace hE := (hE.alloc _).trans hx
    have hz3 := hE.size
    have HO3 := hid (ho3.mono (B' := w.heap.size) (by have := hx.size; simp only [World.size_alloc] at this ⊢; omega))
    clear hx ho3
    go_wp2_with fail
    refine (HW2.out _ _ HBT.out).mono ?_
    rintro e w4 ⟨a4, c4, rfl, ho4, hx⟩
    have HR4 := hid ho4.rd
    have HO4 := hid (HO3.out.ext hx)
    replace hE := hE.trans hx
    have hz4 := hE.size
    clear hx ho4 HO3
    go_wp2_with (at_builtin; refine wpList_appendm rfl _ _ 27 rfl El_str rfl rfl (strsV L2) HR4.out (by rw [strsV_length]; omega) (by intro u hu; simp only [strsV, List.mem_map] at hu; obtain ⟨x, _, rfl⟩ := hu; rfl) HO4.out (by omega) (by unfold maxLen; omega) (by omega) ?_; intro a5 c5 w5 hown5 hb5; have HO5 := hid hown5; have HE5 := hid (hE.thenBelow hb5 (by omega)); clear hown5 hb5)
    go_returns
    have e : (strsV (L1 ++ L2)).length = L1.length + L2.length := by rw [strsV_length, List.length_append]
    refine ⟨a5, c5, by rw [HV.out.1, HV.out.2, List.length_append]; rfl, ?_, HE5.out⟩
    rw [HV.out.1]
    have := HO5.out.ownR
    rwa [← strsV_append] at this
/-- Two boards in a row. -/
def Bd2 (lo m : Nat) (p c p' c' : ByteArray) (v : Value) (w : World) : Prop := ∃ g, v = .slice (some ⟨g, 0, none⟩) 2 2 ∧ BdAt w g 0 m p c ∧ BdAt w g 3 m p' c' ∧ lo ≤ g ∧ g < w.heap.size
theorem Bd2.ext {lo m : Nat} {p c p' c' : ByteArray} {v : Value} {w w' : World} (h : Bd2 lo m p c p' c' v w) (k : Ext w w') : Bd2 lo m p c p' c' v w' := by
  obtain ⟨g, e, h1, h2, h3, h4⟩ := h
  exact ⟨g, e, h1.ext k, h2.ext k, h3, Nat.lt_of_lt_of_le h4 k.size⟩
def wonT (m : Nat) (c : ByteArray) (k : Nat) : ByteArray := if k = 0 then c else turnS m c
def Sq2 (w : World) (g m : Nat) (c : ByteArray) : Prop := (∀ k, k < 2 → ∃ q, w.cell? ⟨g, k * 3, none⟩ = some (.int .i64 m) ∧ w.cell? ⟨g, k * 3 + 1, none⟩ = some (.string q) ∧ w.cell? ⟨g, k * 3 + 2, none⟩ = some (.string (wonT m c k))) ∧ g < w.heap.size
theorem Sq2.ext {w w' : World} {g m : Nat} {c : ByteArray} (h : Sq2 w g m c) (k : Ext w w') : Sq2 w' g m c := by
  refine ⟨fun i hi => ?_, Nat.lt_of_lt_of_le h.2 k.size⟩
  obtain ⟨q, h1, h2, h3⟩ := h.1 i hi
  exact ⟨q, k.cell h1, k.cell h2, k.cell h3⟩
theorem Sq2.push {w w' : World} {g m r : Nat} {c : ByteArray} (h : Sq2 w g m c) (k : w.grownBy w' (some r)) (hne : g ≠ r) : Sq2 w' g m c := by
  have hb := k.block g h.2 (by simpa using hne)
  refine ⟨fun i hi => ?_, Nat.lt_of_lt_of_le h.2 k.size⟩
  obtain ⟨q, h1, h2, h3⟩ := h.1 i hi
  refine ⟨q, ?_, ?_, ?_⟩
  · rw [← h1]; simp only [World.cell?, hb]
  · rw [← h2]; simp only [World.cell?, hb]
  · rw [← h3]; simp only [World.cell?, hb]
theorem Sq2.of {lo m : Nat} {p c p' : ByteArray} {w : World} {g : Nat} (h1 : BdAt w g 0 m p c) (h2 : BdAt w g 3 m p' (turnS m c)) (h3 : g < w.heap.size) : Sq2 w g m c := by
  refine ⟨fun k hk => ?_, h3⟩
  obtain rfl | rfl : k = 0 ∨ k = 1 := by omega
  · exact ⟨p, h1.1, h1.2.1, h1.2.2⟩
  · exact ⟨p', h2.1, h2.2.1, h2.2.2⟩
theorem Split_46 (s : ByteArray) (w : World) (hs : s.size ≤ 1048576) (hM : MaxAt w) : Calls Tryz.prog 31 #[.string s, .string ⟨#[46]⟩] w fun e w' => ∃ q c, e = .returned (.slice (some ⟨q, 0, none⟩) (splitC 46 s).length c) ∧ w.heap.size ≤ q ∧ Rq w' q (splitC 46 s) ∧ Ext w w' := by
  obtain ⟨m, hm⟩ := hM
  refine (Tryz.strings_Split s ⟨#[46]⟩ m w (by omega) hm (Nat.le_refl 1)).mono ?_
  rintro e w' ⟨rfl, rfl⟩
  rw [splitC_count, splitC_eq]
  refine ⟨w.heap.size, _, rfl, Nat.le_refl _, ⟨fun j u hj => ⟨_, _, rfl, ?_⟩, by simp⟩, (Ext.refl w).alloc _⟩
  rw [Nat.zero_add, cell_of_row _ w.heap.size j _ 9 (0, 0) (heap_alloc_new w _)]
  simpa [strsV] using hj
def wonK (m : Nat) (c : ByteArray) : Nat → List ByteArray
  | 0 => []
  | k + 1 => wonK m c k ++ wordsN m (wonT m c k) m
set_option maxRecDepth 100000 in
set_option maxHeartbeats 4000000 in
theorem WordsOn_any (n : Int) (p c : ByteArray) (w : World) (hp : p.size ≤ 1048576) (hc : c.size ≤ 1048576) (hM : MaxAt w) : Calls Tryz.prog 7 #[boardV n p c] w (RetWd (wonL n p c) (wonC n p c) w) := by
  have HM := hid (fun w' (h : Ext w w') => hM.ext h)
  have HO := hid (fun w' => ValidBoard_any n p c w' hp hc)
  clear hM
  cases hk : okB n p c
  · have HV : Hid (wonL n p c = [] ∧ wonC n p c = 1) := hid (by unfold wonL wonC; rw [hk]; exact ⟨rfl, rfl⟩)
    rw [hk] at HO
    clear hk
    go_enter Tryz.func7, Tryz.ntmps7
    go_wp2_with fail
    refine (HO.out _).mono ?_
    rintro e w1 ⟨rfl, hx⟩
    have hE := ((Ext.refl w).alloc (.cells #[.int .i64 n, .string p, .string c] 25)).trans hx
    clear hx
    go_wp2_with fail
    go_returns
    exact ⟨none, 0, by rw [HV.out.1, HV.out.2]; rfl, by rw [HV.out.1]; exact .inl rfl, hE⟩
  · obtain ⟨h1, h2, h3, h4⟩ := okB_true hk
    obtain ⟨m, rfl⟩ := nat_of h1
    have hp2 : p.size = m * m := by have : ((m * m : Nat) : Int) = (m : Int) * m := by push_cast; rfl
                                    omega
    have hc2 : c.size = m * m := by have : ((m * m : Nat) : Int) = (m : Int) * m := by push_cast; rfl
                                    omega
    have hm5 : 5 ≤ m := by omega
    have hm15 : m ≤ 15 := by omega
    have hac : Asc c := asc_cell (by simp only [okB, Bool.and_eq_true] at hk; exact hk.2.2.2.2)
    have HV : Hid (wonL m p c = wonK m c 2 ∧ wonC m p c = 0) := hid (by unfold wonL wonC; rw [hk]; exact ⟨by simp [wonK, wonT], rfl⟩)
    have HA : Hid (∀ k, Asc (wonT m c k)) := hid (fun k => by unfold wonT; split; exact hac; exact asc_turn hc2 (by omega) hac)
    have HT := hid (fun (w' : World) => transpose_any m p c w' hp2 hc2 hm5 hm15)
    have HWZ : Hid (∀ k, (wonT m c k).size = m * m) := hid (fun k => by unfold wonT; split; exact hc2; exact turnS_size m c)
    have HRW := hid (fun (k : Nat) (q : ByteArray) (w' : World) => rows_any m q (wonT m c k) (wonT m c k) w' (HWZ.out k) hm5 hm15)
    have HKS : Hid (∀ k, wonK m c (k + 1) = wonK m c k ++ wordsN m (wonT m c k) m) := hid (fun k => rfl)
    have HNS := hid (fun k i => wordsN_succ m (wonT m c k) i)
    have HN0 := hid (fun k => show wordsN m (wonT m c k) 0 = [] by simp [wordsN, rowsL])
    have HRL := hid (fun k => rowsL_length m (wonT m c k) m)
    have HRA : Hid (∀ k i (h : i < (rowsL m (wonT m c k) m).length), (rowsL m (wonT m c k) m)[i] = rowAt m (wonT m c k) i) := hid (fun k i h => by simp [rowsL])
    have HRS := hid (fun k i => rowAt_le m (wonT m c k) i)
    have HAS : Hid (∀ k i, Asc (rowAt m (wonT m c k) i)) := hid (fun k i => (HA.out k).sub _ _)
    have HPS := hid wordsP_succ
    have HSL := hid (splitC_length_le 46)
    have HSUB := hid (splitC_sub 46)
    have HSL1 : Hid (∀ s, 0 < (splitC 46 s).length) := hid (fun s => by rw [splitC_length]; omega)
    have HT0 : Hid (wonT m c 0 = c ∧ wonT m c 1 = turnS m c) := hid ⟨rfl, rfl⟩
    rw [hk] at HO
    unfold boardV at HT HRW
    clear hk h3 h4 hp2 hc2 hac HWZ HA
    go_enter Tryz.func7, Tryz.ntmps7
    go_wp2_with fail
    refine (HO.out _).mono ?_
    rintro e u1 ⟨rfl, hx⟩
    have hE := ((Ext.refl w).alloc (.cells #[.int .i64 m, .string p, .string c] 25)).trans hx
    have b0 := hx.cell (b := w.heap.size) (o := 0) (v := .int .i64 m) (by simp)
    have b1 := hx.cell (b := w.heap.size) (o := 1) (v := .string p) (by simp)
    have b2 := hx.cell (b := w.heap.size) (o := 2) (v := .string c) (by simp)
    have hz1 := World.block_lt_of_cell? _ _ b0
    simp only [] at hz1
    clear hx
    go_wp2_with fail
    refine wp_region_flow_at (C := Ext) 6 [fun v _ => v = .agg #[.int .i64 m, .string p, .string c], fun v _ => v = .agg #[.int .i64 m, .string p, .string c], fun v _ => v = .agg #[.int .i64 m, .string (turnS m p), .string (turnS m c)], fun v w' => Bd2 (u1.heap.size + 1) m p c (turnS m p) (turnS m c) v w', fun v _ => v = .int .i64 2, fun v _ => v = .int .i64 0]
      [[(1, none)], [(1, none)], [(16, some 1)], [(15, some 0), (17, some 2)], [(18, some 3)], []] (by kernel_rfl) (by kernel_rfl) Ext.refl (fun _ _ _ => Ext.trans) ?_ ?_ ?_
    · intro F hF
      simp only [List.mem_cons, List.not_mem_nil, or_false] at hF
      rcases hF with rfl | rfl | rfl | rfl | rfl | rfl
      · exact fun _ _ _ h _ => h
      · exact fun _ _ _ h _ => h
      · exact fun _ _ _ h _ => h
      · exact fun _ _ _ h k => h.ext k
      · exact fun _ _ _ h _ => h
      · exact fun _ _ _ h _ => h
    · refine ⟨?_, ?_, ?_, ?_, ?_, ?_, trivial⟩
      · rintro ρ w1 hw hcst hfn hk
        have c0 := hw.cell (b := w.heap.size) (o := 0) (v := .int .i64 m) (by first | (simp [*]; done) | (simp [*, go_sem]; done) | go_cell)
        have c1 := hw.cell (b := w.heap.size) (o := 1) (v := .string p) (by first | (simp [*]; done) | (simp [*, go_sem]; done) | go_cell)
        have c2 := hw.cell (b := w.heap.size) (o := 2) (v := .string c) (by first | (simp [*]; done) | (simp [*, go_sem]; done) | go_cell)
        clear hw
        simp only [known, List.getD_cons_zero, List.getD_cons_succ, Nat.reduceAdd] at hk
        simp only [List.getD_cons_zero, List.getD_cons_succ, Nat.reduceAdd, flowAt]
        go_simp
        exact ⟨Ext.refl _, by first | rfl | trivial⟩
      · rintro ρ w1 hw hcst hfn hk
        have c0 := hw.cell (b := w.heap.size) (o := 0) (v := .int .i64 m) (by first | (simp [*]; done) | (simp [*, go_sem]; done) | go_cell)
        have c1 := hw.cell (b := w.heap.size) (o := 1) (v := .string p) (by first | (simp [*]; done) | (simp [*, go_sem]; done) | go_cell)
        have c2 := hw.cell (b := w.heap.size) (o := 2) (v := .string c) (by first | (simp [*]; done) | (simp [*, go_sem]; done) | go_cell)
        clear hw
        simp only [known, List.getD_cons_zero, List.getD_cons_succ, Nat.reduceAdd] at hk
        simp only [List.getD_cons_zero, List.getD_cons_succ, Nat.reduceAdd, flowAt]
        go_simp
        exact ⟨Ext.refl _, by first | rfl | trivial⟩
      · rintro ρ w1 hw hcst hfn hk
        simp only [known, List.getD_cons_zero, List.getD_cons_succ, Nat.reduceAdd] at hk
        simp only [List.getD_cons_zero, List.getD_cons_succ, Nat.reduceAdd, flowAt]
        go_simp
        exact flow_ret (HT.out _)
      · rintro ρ w1 hw hcst hfn hk
        simp only [known, List.getD_cons_zero, List.getD_cons_succ, Nat.reduceAdd] at hk
        simp only [List.getD_cons_zero, List.getD_cons_succ, Nat.reduceAdd, flowAt]
        go_simp
        exact ⟨(Ext.refl _).alloc _, _, rfl, ⟨by simp, by simp, by simp⟩, ⟨by simp, by simp, by simp⟩, by have := hw.size; simpa using this, by simp⟩
      · rintro ρ w1 hw hcst hfn hk
        simp only [known, List.getD_cons_zero, List.getD_cons_succ, Nat.reduceAdd] at hk
        simp only [List.getD_cons_zero, List.getD_cons_succ, Nat.reduceAdd, flowAt]
        go_simp
        (obtain ⟨gg, eg, -⟩ := hk.1; rw [eg]; first | exact ⟨Ext.refl _, rfl⟩ | (go_simp; exact ⟨Ext.refl _, rfl⟩))
      · rintro ρ w1 hw hcst hfn hk
        clear hw
        simp only [known, List.getD_cons_zero, List.getD_cons_succ, Nat.reduceAdd] at hk
        simp only [List.getD_cons_zero, List.getD_cons_succ, Nat.reduceAdd, flowAt]
        go_simp
        exact ⟨Ext.refl _, by first | rfl | trivial⟩
    intro vs w1 hw hf
    simp only [flowFacts, Nat.reduceAdd] at hf
    obtain ⟨e0, e1, e2, e3, e4, e5, -⟩ := hf
    simp only [List.take_succ_cons, List.take_zero, List.drop_succ_cons, List.drop_zero, putAll, Act.put, Nat.reduceAdd, List.setIfInBounds_toArray, List.set_cons_zero, List.set_cons_succ, e0, e1, e2, e4, e5]
    clear e0 e1 e2 e4 e5
    obtain ⟨g3, e3v, d3, d4, hg3, hg3s⟩ := e3
    rw [e3v]
    have HSQ := hid (Sq2.of (lo := 0) d3 d4 hg3s)
    replace hE := (hE.alloc (.cells #[] 9)).trans ((Ext.refl _).drew.trans hw)
    have HOu : Hid (Out w1 w.heap.size u1.heap.size 0 []) := hid (Out.nil _ _ _ (by omega) (by omega))
    have hgu : g3 ≠ u1.heap.size := by omega
    clear hw e3v d3 d4 b0 b1 b2
    go_wp2_with fail
    go_loopw [4, 20] (fun v i wr => ∃ (k cap g : Nat) (T : List ByteArray), k ≤ 2 ∧ i = .int .i64 k ∧ v = .slice (some ⟨g, 0, none⟩) T.length cap ∧ T.length ≤ k * 300 ∧ Hid (T = wonK m c k) ∧ Hid (Out wr w.heap.size g cap T) ∧ Hid (Ext w wr) ∧ Hid (Sq2 wr g3 m c) ∧ g3 ≠ g) (fun _ i _ => 2 - (intOf i).toNat)
    case atStart => exact ⟨0, 0, u1.heap.size, [], by omega, rfl, rfl, by simp, hid rfl, HOu, hid hE, HSQ, hgu⟩
    case round =>
      clear hE HOu HSQ hgu hz1 hg3 hg3s
      obtain ⟨k, cap, g, T, hk, rfl, rfl, hT, HT, HO2, hE, HSQ, hgu⟩ := hrel
      have hEE := hE.out
      by_cases hlt : k < 2
      · obtain ⟨pk, d0, d1, d2⟩ := HSQ.out.1 k hlt
        have HRk := hid (HRW.out k)
        have HRLk := HRL.out k
        have HRAk := hid (HRA.out k)
        have HRSk := hid (HRS.out k)
        have HASk := hid (HAS.out k)
        have HNk := hid (HNS.out k)
        have HN0k := hid (HN0.out k)
        have HKk := hid (HKS.out k)
        obtain ⟨C, hC⟩ : ∃ C, wonT m c k = C := ⟨_, rfl⟩
        rw [hC] at d2 HRk HRLk HRAk HRSk HASk HNk HN0k HKk
        obtain ⟨k3, hk3⟩ : ∃ z, k * 3 = z := ⟨_, rfl⟩
        rw [hk3] at d0 d1 d2
        clear hC
        go_wp2_with fail
        refine (HRk.out pk _).mono ?_
        rintro e w3 ⟨ar, cr, rfl, hor, hx⟩
        obtain ⟨q1, rfl, hq1, hr1⟩ := Rq.of (w' := w3) hor (by omega)
        simp only [World.size_alloc] at hq1
        replace hx := ((Ext.refl wr).alloc (.cells #[.int .i64 m, .string pk, .string C] 25)).trans hx
        have hE3 := hEE.trans hx
        have HO3 := hid (HO2.out.ext hx)
        have HQ1 := hid hr1
        have HSQ3 := hid (HSQ.out.ext hx)
        have hq1g : q1 ≠ g := by have := HO2.out.2.2; omega
        clear hx hor hr1 hE hEE HO2 HSQ d0 d1 d2
        rw [HRLk]
        go_wp2_with fail
        go_loopw [4, 29] (fun v i wr => ∃ (r cap g : Nat) (U : List ByteArray), r ≤ m ∧ i = .int .i64 r ∧ v = .slice (some ⟨g, 0, none⟩) U.length cap ∧ U.length ≤ k * 300 + r * 20 ∧ Hid (U = T ++ wordsN m C r) ∧ Hid (Out wr w.heap.size g cap U) ∧ Hid (Ext w wr) ∧ Hid (Sq2 wr g3 m c) ∧ g3 ≠ g ∧ Hid (Rq wr q1 (rowsL m C m)) ∧ q1 ≠ g) (fun _ i _ => m - (intOf i).toNat)
        case atStart => exact ⟨0, cap, g, T, by omega, rfl, rfl, by omega, hid (by rw [HN0k.out, List.append_nil]), HO3, hid hE3, HSQ3, hgu, HQ1, hq1g⟩
        case round =>
          clear hE3 HO3 HSQ3 hgu HQ1 hq1g hq1
          obtain ⟨r, cap, g, U, hr, rfl, rfl, hU, HU, HO3, hE, HSQ3, hgu, HQ1, hq1g⟩ := hrel
          by_cases hrl : r < m
          · have cj := HQ1.out.at r (by omega)
            rw [HRAk.out r (by omega)] at cj
            have hrs := HRSk.out r
            have HNr := hid (HNk.out r)
            have HAr := hid (HASk.out r)
            obtain ⟨R, hR⟩ : ∃ R, rowAt m C r = R := ⟨_, rfl⟩
            rw [hR] at cj hrs HNr HAr
            have HSp := hid (fun w' h => Split_46 R w' (by omega) h)
            have hsl := HSL.out R
            have hsl1 := HSL1.out R
            have HSB := hid (HSUB.out R)
            have hRs : R.size ≤ 15 := by omega
            obtain ⟨Q, hQ⟩ : ∃ Q, splitC 46 R = Q := ⟨_, rfl⟩
            rw [hQ] at hsl hsl1 HSp HNr HSB
            clear hR hQ hrs
            go_wp2_with fail
            refine (HSp.out _ (HM.out _ hE.out)).mono ?_
            rintro e w4 ⟨q2, c2, rfl, hq2, hr2, hx⟩
            have hE4 := hE.out.trans hx
            have HO4 := hid (HO3.out.ext hx)
            have HQ2 := hid hr2
            have HQ14 := hid (HQ1.out.ext hx)
            have HSQ4 := hid (HSQ3.out.ext hx)
            have hq2g : q2 ≠ g := by have := HO3.out.2.2; omega
            clear hx hr2 hE HO3 HQ1 HSQ3 cj hq2
            go_wp2_with fail
            go_loopw [4, 36] (fun v i wr => ∃ (j cap g : Nat) (V : List ByteArray), j ≤ Q.length ∧ i = .int .i64 j ∧ v = .slice (some ⟨g, 0, none⟩) V.length cap ∧ V.length ≤ k * 300 + r * 20 + j ∧ Hid (V = U ++ wordsP (Q.take j)) ∧ Hid (Out wr w.heap.size g cap V) ∧ Hid (Ext w wr) ∧ Hid (Sq2 wr g3 m c) ∧ g3 ≠ g ∧ Hid (Rq wr q1 (rowsL m C m)) ∧ q1 ≠ g ∧ Hid (Rq wr q2 Q) ∧ q2 ≠ g) (fun _ i _ => Q.length - (intOf i).toNat)
            case atStart => exact ⟨0, cap, g, U, by omega, rfl, rfl, by omega, hid (by simp [wordsP]), HO4, hid hE4, HSQ4, hgu, HQ14, hq1g, HQ2, hq2g⟩
            case round =>
              clear hE4 HO4 HSQ4 hgu HQ14 hq1g HQ2 hq2g
              obtain ⟨j, cap, g, V, hj, rfl, rfl, hV, HVV, HO5, hE, HSQ5, hgu, HQ15, hq1g, HQ2, hq2g⟩ := hrel
              by_cases hjl : j < Q.length
              · have cj := HQ2.out.at j hjl
                have HPj := hid (HPS.out Q j hjl)
                obtain ⟨x, hx⟩ : ∃ x, Q[j] = x := ⟨_, rfl⟩
                have hxx : x.size ≤ 15 ∧ Asc x := by
                  obtain ⟨y1, y2, y3, y4, y5⟩ := HSB.out Q[j] (List.getElem_mem _)
                  rw [← hx, y5]
                  exact ⟨by rw [ByteArray.size_extract]; omega, HAr.out.sub _ _⟩
                rw [hx] at cj HPj
                have hxz := hxx.1
                have HSm := hid (fun w' => lower_ascii x w' (by omega) hxx.2.at)
                clear hx hxx
                have hzw := hE.out.size
                by_cases hz : 2 ≤ x.size
                · have hz1 : (2 : Int) ≤ (x.size : Int) := by omega
                  go_wp2_with fail
                  refine (HSm.out _).mono ?_
                  rintro e w5 ⟨rfl, hx5⟩
                  have HO6 := hid (HO5.out.ext hx5)
                  have hE6 := hE.out.trans hx5
                  have HQ16 := hid (HQ15.out.ext hx5)
                  have HQ26 := hid (HQ2.out.ext hx5)
                  have HSQ6 := hid (HSQ5.out.ext hx5)
                  have hz3 := hE6.size
                  clear hx5 cj
                  have hown := HO6.out.1
                  have hg6 := HO6.out.2
                  go_wp2_with (at_builtin; refine wpList_pushS rfl _ _ 27 rfl El_str rfl [_] rfl rfl (by simp [Value.oneCell']) hown (by omega) (by unfold maxLen; omega) (by omega) ?_; intro g8 c8 w8 hown8 hgrow8 hsep8; have HO7 := hid hown8; have HG := hid hgrow8; clear hown hown8 hgrow8)
                  have HO8 := hid (HO6.out.push HO7.out)
                  have h8 := sep_ne HSQ6.out.2 hgu hsep8
                  have h81 := sep_ne HQ16.out.2 hq1g hsep8
                  have h82 := sep_ne HQ26.out.2 hq2g hsep8
                  have HSQ8 := hid (HSQ6.out.push HG.out hgu)
                  have HQ18 := hid (HQ16.out.push HG.out hq1g)
                  have HQ28 := hid (HQ26.out.push HG.out hq2g)
                  have hE8 := ext_pushed hE6 HG.out hg6.1
                  clear HO6 HO7 HG HQ16 HQ26 HSQ6 hsep8
                  go_roundw
                  case rel => exact ⟨j + 1, c8, g8, V ++ [lowA x], by omega, by go_num, by rw [List.length_append]; rfl, by rw [List.length_append]; simp; omega, hid (by rw [HPj.out, if_pos hz, HVV.out, List.append_assoc]), HO8, hid hE8, HSQ8, h8, HQ18, h81, HQ28, h82⟩
                  case measure => simp [intOf]; omega
                · have hz1 : ¬ (2 : Int) ≤ (x.size : Int) := by omega
                  go_wp2_with fail
                  go_roundw
                  case rel => exact ⟨j + 1, cap, g, V, by omega, by go_num, rfl, by omega, hid (by rw [HPj.out, if_neg hz, List.append_nil]; exact HVV.out), HO5, hE, HSQ5, hgu, HQ15, hq1g, HQ2, hq2g⟩
                  case measure => simp [intOf]; omega
              · obtain rfl : j = Q.length := by omega
                have HU2 : Hid (V = T ++ wordsN m C (r + 1)) := hid (by rw [HVV.out, HNr.out, HU.out, List.take_length, List.append_assoc])
                go_wp2_with fail
                go_roundw
                case rel => exact ⟨r + 1, cap, g, V, by omega, by go_num, rfl, by omega, HU2, HO5, hE, HSQ5, hgu, HQ15, hq1g⟩
                case measure => simp [intOf]; omega
          · obtain rfl : r = m := by omega
            have HU2 : Hid (U = wonK r c (k + 1)) := hid (by rw [HU.out, HKk.out, ← HT.out])
            go_wp2_with fail
            go_roundw
            case rel => exact ⟨k + 1, cap, g, U, by omega, by go_num, rfl, by omega, HU2, HO3, hE, HSQ3, hgu⟩
            case measure => simp [intOf]; omega
      · obtain rfl : k = 2 := by omega
        go_wp2_with fail
        go_returns
        refine ⟨_, cap, by rw [HV.out.1, HV.out.2, ← HT.out]; rfl, by rw [HV.out.1, ← HT.out]; exact HO2.out.1.ownR, hE.out⟩
end Go.Proofs.YtmohfdfjlgekaaaGreatDoor
