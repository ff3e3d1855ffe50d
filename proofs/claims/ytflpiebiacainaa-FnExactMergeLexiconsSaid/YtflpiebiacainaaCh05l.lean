/- MergeLexicons of the reference. Conditions: at most 2^20 bytes and words in all. -/
import Derived.Test.YtflpiebiacainaaCh05k
namespace Go.Proofs.Ytflpiebiacainaa
set_option linter.unusedVariables false
set_option linter.unusedSimpArgs false
open Go Go.RowKit
theorem foldl_takeL (L l : List ByteArray) (k : Nat) (h : k < l.length) : (l.take (k + 1)).foldl insL L = insL ((l.take k).foldl insL L) (wAt l k) := by
  rw [List.take_succ_eq_append_getElem h, List.foldl_append, wAt_eq l k h]
  rfl
theorem lexOk_long {l : List ByteArray} (h : lexOk l = true) : l.all longOk = true := by
  unfold lexOk at h
  simp only [Bool.and_eq_true] at h
  exact h.2.2
set_option maxHeartbeats 1000000 in
theorem l05Merge_any (a b : Option Addr) (c c0 : Nat) (l m : List ByteArray) (w : World) (h : Rd w a (strsV l)) (h' : Rd w b (strsV m)) (hl : l.length + m.length ≤ 900000) :
    Calls Try.prog 35 #[.slice a l.length c, .slice b m.length c0] w (RetO (m.foldl insL l) w) := by
  have HRA : Hid (∀ w', Ext w w' → Rd w' a (strsV l)) := hid (fun w' k => h.ext k)
  have HR : Hid (∀ w', Ext w w' → Rd w' b (strsV m)) := hid (fun w' k => h'.ext k)
  have HF := hid (foldl_takeL l m)
  have HB := hid (fun k => foldl_len (m.take k) l)
  clear h h'
  go_enter Try.func35, Try.ntmps35
  go_wp2_with (at_builtin; refine wpList_appendm rfl _ _ _ rfl El_str (a := some ⟨w.heap.size, 0, none⟩) (n := 0) (c := 0) rfl (b := a) (m := l.length) (k := c) rfl (strsV l) (HRA.out _ ((Ext.refl w).alloc _)) (by simp [strsV_length]) (fun u hu => strsV_one u hu) (B := w.heap.size) (xs := []) (Own.empty _ _ _ _ _) (by simp) (by unfold maxLen; omega) (by omega) ?_; intro a1 c1 w1 ho1 hb1; rw [Nat.zero_add] at *)
  have HO1 := hid ho1
  have hE1 : Ext w w1 := ((Ext.refl w).alloc (.cells #[] 9)).thenBelow hb1 (Nat.le_refl _)
  clear ho1 hb1
  go_loopw [5, 6] (fun v i wr => ∃ (k n c' : Nat) (a' : Option Addr) (L : List ByteArray), k ≤ m.length ∧ i = .int .i64 k ∧ v = .slice a' n c' ∧ n ≤ l.length + k ∧ Hid (n = L.length) ∧ Hid (L = (m.take k).foldl insL l) ∧ Hid (Own wr w.heap.size 9 1 a' L.length c' (strsV L)) ∧ Ext w wr) (fun _ i _ => m.length - (intOf i).toNat)
  case atStart => exact ⟨0, l.length, c1, a1, l, by omega, rfl, rfl, by omega, hid rfl, hid rfl, hid (by simpa using HO1.out), hE1⟩
  case round =>
    obtain ⟨k, n, c', a', L, hk, rfl, rfl, hn, HN, HL, HO, hE⟩ := hrel
    by_cases hlt : k < m.length
    · obtain ⟨b, o, rfl, hcs⟩ := (HR.out _ hE).word (by omega)
      have c0 := hcs k hlt
      have HK := hid (HF.out k hlt)
      obtain ⟨s, hs⟩ : ∃ s, wAt m k = s := ⟨_, rfl⟩
      rw [hs] at c0 HK
      obtain ⟨p0, hp0⟩ : ∃ p0, o + k = p0 := ⟨_, rfl⟩
      rw [hp0] at c0
      have HIn := hid (l03Insert_any a' c' L s wr HO.out.rd (by have := HN.out; omega) HO.out.le)
      rw [← HN.out] at HIn
      have HBn := hid (HB.out (k + 1))
      have HBs := hid hE.size
      clear hcs hs
      go_wp2_with fail
      refine HIn.out.mono ?_
      rintro e w2 hIR
      obtain ⟨a2, c2, rfl, ho, hx⟩ := hIR.own HO.out HBs.out
      have HO2 := hid ho
      have hle2 : (insL L s).length ≤ l.length + (k + 1) := by
        have := HBn.out
        rw [HK.out, ← HL.out] at this
        simp only [List.length_take] at this
        omega
      obtain ⟨n2, hn2⟩ : ∃ n2, (insL L s).length = n2 := ⟨_, rfl⟩
      rw [hn2] at hle2 ⊢
      have HN2 := hid hn2
      clear ho hIR hn2
      go_wp2_with fail
      go_roundw
      case rel => exact ⟨k + 1, n2, c2, a2, insL L s, by omega, by go_num, rfl, hle2, hid HN2.out.symm, hid (by rw [HK.out, ← HL.out]), HO2, hE.trans hx⟩
      case measure => simp [intOf]; omega
    · obtain rfl : k = m.length := by omega
      have HX : Hid (L = m.foldl insL l) := hid (by rw [HL.out, List.take_length])
      go_wp2_with fail
      go_returns
      refine ⟨a', c', by rw [← HX.out, ← HN.out]; rfl, ?_, hE⟩
      rw [← HX.out]
      exact HO.out
set_option maxHeartbeats 2000000 in
theorem sMergeLexicons_any (a b : Option Addr) (c c' : Nat) (l m : List ByteArray) (w : World) (h : Rd w a (strsV l)) (h' : Rd w b (strsV m)) (hl : l.length + m.length ≤ 1048576) (hs : ∀ s ∈ l, s.size ≤ 1048576) (hs' : ∀ s ∈ m, s.size ≤ 1048576) :
    Calls Try.prog 19 #[lexV a l.length c, lexV b m.length c'] w (RetA (merX l m) (merC l m) w) := by
  have HRA : Hid (∀ w', Ext w w' → Rd w' a (strsV l)) := hid (fun w' k => h.ext k)
  have HRB : Hid (∀ w', Ext w w' → Rd w' b (strsV m)) := hid (fun w' k => h'.ext k)
  have HVA := hid (fun w' p (q : LkT w' p 26 (.slice a l.length c)) (k : Ext w w') => l05Ok_any p 0 l w' ⟨a, c, q.cell, h.ext k⟩ (by omega) hs)
  have HVB := hid (fun w' p (q : LkT w' p 26 (.slice b m.length c')) (k : Ext w w') => l05Ok_any p 0 m w' ⟨b, c', q.cell, h'.ext k⟩ (by omega) hs')
  have HC : Hid (merC l m = if lexOk l then if lexOk m then makC (l ++ m) else 1 else 1) := hid rfl
  have HX : Hid (merX l m = if lexOk l && lexOk m then makX (l ++ m) else []) := hid rfl
  have HML := hid (fun w' (k : Ext w w') (h9 : l.length + m.length ≤ 900000) => l05Merge_any a b c c' l m w' (h.ext k) (h'.ext k) h9)
  have HMC : Hid (makC (l ++ m) = if (l ++ m).all longOk then if 200 < (makeL (l ++ m)).length then 5 else 0 else 7) := hid rfl
  have HMX : Hid (makX (l ++ m) = if makC (l ++ m) = 0 then makeL (l ++ m) else []) := hid rfl
  have T1 : LkT (w.alloc (.cells #[.slice a l.length c] 26)) w.heap.size 26 (.slice a l.length c) := LkT.new _ _ _
  have T2 : LkT ((w.alloc (.cells #[.slice a l.length c] 26)).alloc (.cells #[.slice b m.length c'] 26)) (w.heap.size + 1) 26 (.slice b m.length c') := by
    have := LkT.new (w.alloc (.cells #[.slice a l.length c] 26)) 26 (.slice b m.length c')
    rwa [World.size_alloc] at this
  have L3 : LkT (((w.alloc (.cells #[.slice a l.length c] 26)).alloc (.cells #[.slice b m.length c'] 26)).alloc (.cells #[.slice none 0 0] 26)) (w.heap.size + 1 + 1) 26 (.slice none 0 0) := by
    have := LkT.new ((w.alloc (.cells #[.slice a l.length c] 26)).alloc (.cells #[.slice b m.length c'] 26)) 26 (.slice none 0 0)
    rwa [World.size_alloc, World.size_alloc] at this
  have L2 := T2.ext ((Ext.refl _).alloc (.cells #[.slice none 0 0] 26))
  have L1 := (T1.ext ((Ext.refl _).alloc (.cells #[.slice b m.length c'] 26))).ext ((Ext.refl _).alloc (.cells #[.slice none 0 0] 26))
  have HL1 := hid L1
  have HL2 := hid L2
  have HL3 := hid L3
  clear h h' T1 T2 L1 L2 L3
  cases hk : lexOk l
  · rw [hk] at HVA HC HX
    have HA : Hid (merX l m = []) := hid HX.out
    clear hk
    go_enter Try.func19, Try.ntmps19
    go_wp2_with fail
    refine (HVA.out _ _ HL1.out ((((Ext.refl w).alloc _).alloc _).alloc _)).mono ?_
    rintro e w1 ⟨rfl, hd⟩
    have hE := hd.ext
    have r0 := (HL3.out.ext hE).cell
    have rf := (HL3.out.ext hE).free 0
    have hE1 := ((((Ext.refl w).alloc _).alloc _).alloc _).trans hE
    clear hE hd
    go_wp2_with fail
    refine bodyPost_ret (v := .tuple #[lexV none 0 0, .int .i64 1]) (by simp [results, Try.results19, go_sem, r0, rf]) rfl ⟨none, 0, by rw [HA.out, HC.out]; rfl, by rw [HA.out]; exact .inl rfl, hE1.setCell (by show w.heap.size ≤ w.heap.size + 1 + 1; omega) _⟩
  cases hk2 : lexOk m
  · rw [hk] at HVA HC HX
    rw [hk2] at HVB HC HX
    have HA : Hid (merX l m = []) := hid HX.out
    clear hk hk2
    go_enter Try.func19, Try.ntmps19
    go_wp2_with fail
    refine (HVA.out _ _ HL1.out ((((Ext.refl w).alloc _).alloc _).alloc _)).mono ?_
    rintro e w1 ⟨rfl, hd⟩
    have hE := hd.ext
    have HB1 := hid (HL2.out.ext hE)
    have HB3 := hid (HL3.out.ext hE)
    have hE1 := ((((Ext.refl w).alloc _).alloc _).alloc _).trans hE
    clear hE hd
    go_wp2_with fail
    refine (HVB.out _ _ HB1.out hE1).mono ?_
    rintro e w2 ⟨rfl, hd⟩
    have hx := hd.ext
    have r02 := (HB3.out.ext hx).cell
    have rf2 := (HB3.out.ext hx).free 0
    have hE2 := hE1.trans hx
    clear hx hd hE1
    go_wp2_with fail
    refine bodyPost_ret (v := .tuple #[lexV none 0 0, .int .i64 1]) (by simp [results, Try.results19, go_sem, r02, rf2]) rfl ⟨none, 0, by rw [HA.out, HC.out]; rfl, by rw [HA.out]; exact .inl rfl, hE2.setCell (by show w.heap.size ≤ w.heap.size + 1 + 1; omega) _⟩
  · have h2l := lexOk_200 hk
    have h2m := lexOk_200 hk2
    have HLG : Hid ((l ++ m).all longOk = true) := hid (by rw [List.all_append, lexOk_long hk, lexOk_long hk2]; rfl)
    have HRS : Hid (makeL (l ++ m) = m.foldl insL l) := hid (makeL_append (Rise.of_inc (lexOk_inc hk)) m)
    rw [hk] at HVA HC HX
    rw [hk2] at HVB HC HX
    have HA : Hid (merX l m = makX (l ++ m)) := hid HX.out
    have HK : Hid (merC l m = makC (l ++ m)) := hid HC.out
    clear hk hk2
    go_enter Try.func19, Try.ntmps19
    go_wp2_with fail
    refine (HVA.out _ _ HL1.out ((((Ext.refl w).alloc _).alloc _).alloc _)).mono ?_
    rintro e w1 ⟨rfl, hd⟩
    have hE := hd.ext
    have HB0 := hid (HL1.out.ext hE)
    have HB1 := hid (HL2.out.ext hE)
    have HB3 := hid (HL3.out.ext hE)
    have hE1 := ((((Ext.refl w).alloc _).alloc _).alloc _).trans hE
    clear hE hd
    go_wp2_with fail
    refine (HVB.out _ _ HB1.out hE1).mono ?_
    rintro e w2 ⟨rfl, hd⟩
    have hx := hd.ext
    have a0 := (HB0.out.ext hx).cell
    have b0 := (HB1.out.ext hx).cell
    have HB4 := hid (HB3.out.ext hx)
    have hE2 := hE1.trans hx
    clear hx hd hE1
    go_wp2_with fail
    refine (HML.out _ hE2 (by omega)).mono ?_
    rintro e w3 ⟨a3, c3, rfl, ho, hx⟩
    have HO := hid ho
    have HB5 := hid (HB4.out.ext hx)
    have hE3 := hE2.trans hx
    have HSZ := hid hE2.size
    have HL4 := hid HB4.out.lt
    clear hx ho a0 b0
    obtain ⟨z, hz⟩ : ∃ z, (m.foldl insL l).length = z := ⟨_, rfl⟩
    rw [hz]
    have HZ : Hid ((makeL (l ++ m)).length = z) := hid (by rw [HRS.out]; exact hz)
    clear hz
    have r0 := HB5.out.cell
    have rf := HB5.out.free 0
    by_cases hf : 200 < z
    · have HKK : Hid (makC (l ++ m) = 5) := hid (by rw [HMC.out, HLG.out, if_pos rfl, HZ.out, if_pos hf])
      have hfi : (200 : Int) < (z : Int) := by omega
      clear hf
      go_wp2_with fail
      refine bodyPost_ret (v := .tuple #[lexV none 0 0, .int .i64 5]) (by simp [results, Try.results19, go_sem, r0, rf]) rfl ⟨none, 0, by rw [HA.out, HK.out, HMX.out, HKK.out]; rfl, by rw [HA.out, HMX.out, HKK.out]; exact .inl rfl, hE3.setCell (by show w.heap.size ≤ w.heap.size + 1 + 1; omega) _⟩
    · have HKK : Hid (makC (l ++ m) = 0) := hid (by rw [HMC.out, HLG.out, if_pos rfl, HZ.out, if_neg hf])
      have hfi : ¬ (200 : Int) < (z : Int) := by omega
      have HXL : Hid (makX (l ++ m) = m.foldl insL l) := hid (by rw [HMX.out, if_pos HKK.out, HRS.out])
      have HZ2 : Hid ((m.foldl insL l).length = z) := hid (by rw [← HRS.out]; exact HZ.out)
      clear hf
      go_wp2_with fail
      refine bodyPost_ret (v := .tuple #[lexV a3 z c3, .int .i64 0]) (by simp [results, Try.results19, go_sem, r0, rf]) rfl ⟨a3, c3, by rw [HA.out, HXL.out, HK.out, HKK.out, HZ2.out], ?_, hE3.setCell (by show w.heap.size ≤ w.heap.size + 1 + 1; omega) _⟩
      rw [HA.out, HXL.out]
      rcases HO.out.inR with h | ⟨g, he, h1, h2, hw⟩
      · exact .inl h
      · exact .inr ⟨g, he, by have := HSZ.out; omega, by simpa [World.setCell] using h2, hw.other (by have := HL4.out; omega)⟩
end Go.Proofs.Ytflpiebiacainaa
