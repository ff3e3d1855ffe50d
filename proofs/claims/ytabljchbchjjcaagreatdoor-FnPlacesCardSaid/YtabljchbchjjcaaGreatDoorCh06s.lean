/- bothLexicon at an automaton that was built from a small lexicon's forms: the lexicon again. Conditions: at most 6 words. -/
import Derived.Test.YtabljchbchjjcaaGreatDoorCh06r
import Derived.Test.YtabljchbchjjcaaGreatDoorMg19
import Derived.Test.YtabljchbchjjcaaGreatDoorCh09i
import Derived.Test.YtabljchbchjjcaaGreatDoorMg10
import Derived.Test.YtabljchbchjjcaaGreatDoorCh06p
import Derived.Test.YtabljchbchjjcaaGreatDoorMg20
namespace Go.Proofs.YtabljchbchjjcaaGreatDoor
set_option linter.unusedVariables false
set_option linter.unusedSimpArgs false
open Go Go.RowKit
set_option maxHeartbeats 1000000 in
theorem EqualS_same (a b : Option Addr) (c d : Nat) (xs : List ByteArray) (w : World) (h : Rd w a (strsV xs)) (h' : Rd w b (strsV xs)) (hl : xs.length ≤ 1048576) :
    Calls Tryz.prog 39 #[.slice a xs.length c, .slice b xs.length d] w (Ret (.bool true) w) := by
  have HR := hid h
  have HS := hid h'
  clear h h'
  have hb : ((xs.length : Int) != (xs.length : Int)) = false := by simp
  go_enter Tryz.func39, Tryz.ntmps39
  go_wp2_with fail
  go_loopw [13] (fun i wr => ∃ k : Nat, k ≤ xs.length ∧ i = .int .i64 k ∧ Ext w wr) (fun i _ => xs.length - (intOf i).toNat)
  case atStart => exact ⟨0, by omega, rfl, Ext.refl _⟩
  case round =>
    obtain ⟨k, hk, rfl, hD⟩ := hrel
    by_cases hlt : k < xs.length
    · obtain ⟨b1, o1, rfl, hc⟩ := (HR.out.ext hD).str (by omega)
      obtain ⟨b2, o2, rfl, hd⟩ := (HS.out.ext hD).str (by omega)
      have hck := hc k hlt
      have hdk := hd k hlt
      clear hc hd
      obtain ⟨u, hu⟩ : ∃ u, xs[k] = u := ⟨_, rfl⟩
      rw [hu] at hck hdk
      have hbe : (u.toList != u.toList) = false := by simp
      go_wp2_with fail
      go_quiet (fail)
      go_wp2_with fail
      go_roundw
      case rel => exact ⟨k + 1, by omega, by go_num, hD.drewN _⟩
      case measure => simp [intOf]; omega
    · obtain rfl : k = xs.length := by omega
      go_wp2_with fail
      go_returns
      exact ⟨by first | rfl | trivial, hD⟩
theorem idx_noM (s : ByteArray) : decide (0 ≤ Lib.indexByte s.data.toList 62) = !noM s := by
  unfold noM
  have hge := Go.Lib.indexByte_ge s.data.toList 62
  by_cases h : Lib.indexByte s.data.toList 62 = -1
  · rw [decide_eq_false (by omega)]
    have : (s.data.toList.all fun u => u != 62) = true := by
      rw [List.all_eq_true]
      intro u hu
      obtain ⟨k, hk, rfl⟩ := List.getElem_of_mem hu
      have h2 := Go.Lib.indexByte_none h k
      rw [List.getElem?_eq_getElem hk] at h2
      simpa using h2
    rw [this]
    rfl
  · obtain ⟨j, hj⟩ : ∃ j : Nat, Lib.indexByte s.data.toList 62 = j := ⟨(Lib.indexByte s.data.toList 62).toNat, by omega⟩
    rw [decide_eq_true (by omega)]
    obtain ⟨h1, -⟩ := Go.Lib.indexByte_some hj
    have : (s.data.toList.all fun u => u != 62) = false := by
      rw [List.all_eq_false]
      exact ⟨62, List.mem_of_getElem? h1, by simp⟩
    rw [this]
    rfl
/-- The words without a mark among the first k, turned. -/
def bkW (S : List ByteArray) (k : Nat) : List ByteArray := ((S.take k).filter noM).map revS
theorem bkW_all (S : List ByteArray) : bkW S S.length = (S.filter noM).map revS := by simp [bkW]
theorem bkW_yes {S : List ByteArray} {k : Nat} (h : k < S.length) (hn : noM (wAt S k) = true) : bkW S (k + 1) = bkW S k ++ [revS (wAt S k)] := by
  unfold bkW
  rw [← wAt_eq S k h] at hn ⊢
  rw [List.take_succ_eq_append_getElem h, List.filter_append, List.filter_cons_of_pos hn, List.map_append]
  rfl
theorem bkW_no {S : List ByteArray} {k : Nat} (h : k < S.length) (hn : noM (wAt S k) = false) : bkW S (k + 1) = bkW S k := by
  unfold bkW
  rw [← wAt_eq S k h] at hn
  rw [List.take_succ_eq_append_getElem h, List.filter_append, List.filter_cons_of_neg (by simp [hn])]
  simp
theorem bkW_le (S : List ByteArray) (k : Nat) : (bkW S k).length ≤ S.length := by
  unfold bkW
  rw [List.length_map]
  refine Nat.le_trans (List.length_filter_le _ _) ?_
  rw [List.length_take]
  omega
set_option maxRecDepth 100000 in
set_option maxHeartbeats 8000000 in
theorem bothLexicon_good (aD : Option Addr) (cD : Nat) (LD : List NdP) (l : List ByteArray) (N : List Nd) (O : List Nat) (r : Nat) (w : World) (h : DgRd w aD LD) (hA : AutoOk (srtF l) N O r) (hM : ndsOf LD = numM N O) (hlx : lexOk l = true) (h6 : l.length ≤ 6) (hT : TabF w) :
    Calls Tryz.prog 22 #[dawgV aD LD.length cD] w fun e w' => ∃ a c, e = .returned (.tuple #[lexV a l.length c, .bool true]) ∧ Rd w' a (strsV l) ∧ Ext w w' := by
  obtain ⟨m1, m2, m3, m4, m5⟩ := hA.mem
  obtain ⟨S, hS⟩ : ∃ S, srtF l = S := ⟨_, rfl⟩
  obtain ⟨s1, s2, s3⟩ := srtF_small hlx h6
  obtain ⟨p1, p2, p3⟩ := lexOk_parts hlx
  have hback := back_ok hlx
  have hsz : ∀ s ∈ l, s.size ≤ 12 := fun s hs => (longOk_parts (p3 s hs)).2.1
  have HAF := hid (fun a c w' (k : Rd w' a (strsV l)) => allForms_any a c l w' k p1 hsz)
  have HVL := hid (fun a c w' (k : Rd w' a (strsV l)) => ValidLexicon_any a c l w' k (by omega) (fun s hs => by have := hsz s hs; omega))
  rw [hS] at s1 s2 hA hback HAF
  rw [hlx] at HVL
  have HV := hid (fun w' (k : Ext w w') => ValidDawg_good aD cD LD N O r w' (h.ext k) hA.dn hA.ne hA.nd hA.rl hA.oe hM hA.good hA.nl hA.ol hA.ed hA.fin hA.cnt hA.lgs (hT.ext k))
  have hlen : (langN N r).length = S.length := by rw [hA.lang, List.length_map]
  have hwd : (langN N r).map (fun t => (⟨t.toArray⟩ : ByteArray)) = S := by
    rw [hA.lang, List.map_map]
    conv => rhs; rw [← List.map_id S]
    exact List.map_congr_left fun s _ => ba_ext (by simp)
  have HW := hid (fun w' (k : Ext w w') => words_any aD cD LD N O r hA.dn m1 m2 m3 hM hA.nl hA.ed m4 m5 w' (by omega) (h.ext k))
  rw [hlen, hwd] at HW
  have HBK := hid hback
  have HS2 := hid s2
  clear h hA hM hT m1 m2 m3 m4 m5 hS hback hlen hwd s2 s3 p3 hsz hlx p2
  go_enter Tryz.func22, Tryz.ntmps22
  go_wp2_with fail
  refine (HV.out _ (((Ext.refl w).alloc _).alloc _)).mono ?_
  rintro e w1 ⟨rfl, hx1⟩
  have hX1 := (((Ext.refl w).alloc (.cells #[.slice aD LD.length cD] 30)).alloc (.cells #[.slice none 0 0] 26)).trans hx1
  have q0 := hx1.cell (b := w.heap.size) (o := 0) (v := .slice aD LD.length cD) (by go_cell)
  have L1 := hid ((Lk.new (w.alloc (.cells #[.slice aD LD.length cD] 30)) (.slice none 0 0)).ext hx1)
  go_wp2_with fail
  refine (HW.out w1 hX1).mono ?_
  rintro e w2 ⟨gW, cW, rfl, hoW, hx2⟩
  have HRW := hid hoW.rd
  have HX2 := hid (hX1.trans hx2)
  have L2 := hid (L1.out.ext hx2)
  have hz2 : w.heap.size + 1 < w2.heap.size := by have := L2.out.lt; simpa using this
  clear hoW hx2 hX1 hx1 L1 q0
  have HSS : Hid (∀ k, k < S.length → (wAt S k).size ≤ 13) := hid (fun k hk => (HS2.out _ (wAt_mem S k hk)).2.1)
  have HYS := hid (fun k hk hn => @bkW_yes S k hk hn)
  have HNO := hid (fun k hk hn => @bkW_no S k hk hn)
  have HBL := hid (bkW_le S)
  have HAL := hid (bkW_all S)
  rw [← HAL.out] at HBK
  clear HAL HS2
  go_wp2_with fail
  go_loopw [5, 18] (fun v i wr => ∃ (k n c' : Nat) (a' : Option Addr), k ≤ S.length ∧ i = .int .i64 (k : Int) ∧ v = .slice a' n c' ∧ n ≤ k ∧ Hid ((bkW S k).length = n) ∧ Hid (Own wr w2.heap.size 9 1 a' n c' (strsV (bkW S k))) ∧ Hid (n = 0 → a' = some ⟨w2.heap.size, 0, none⟩) ∧ w2.heap.size < wr.heap.size ∧ Ext w2 wr) (fun _ i _ => S.length - (intOf i).toNat)
  case atStart => exact ⟨0, 0, 0, some ⟨w2.heap.size, 0, none⟩, by omega, rfl, rfl, by omega, hid rfl, hid (Own.empty _ _ _ _ _), hid (fun _ => rfl), by simp, (Ext.refl _).alloc _⟩
  case round =>
    obtain ⟨k, n, c', a', hk, rfl, rfl, hn, hbl, hown, ha0, hsz, hx⟩ := hrel
    by_cases hlt : k < S.length
    · obtain ⟨b1, o1, e1, hcl⟩ := (HRW.out.ext hx).word (by omega)
      simp only [Option.some.injEq, Addr.mk.injEq, and_true] at e1
      obtain ⟨rfl, rfl⟩ := e1
      have c1 := hcl k hlt
      rw [Nat.zero_add] at c1
      have hys := HSS.out k hlt
      have HCN := hid (idx_noM (wAt S k))
      have HY1 := hid (HYS.out k hlt)
      have HN1 := hid (HNO.out k hlt)
      obtain ⟨y, hy⟩ : ∃ y, wAt S k = y := ⟨_, rfl⟩
      rw [hy] at c1 hys HCN HY1 HN1
      have HRV := hid (fun w' => reversed_any y w' (by omega))
      have HCO := hid (fun w' => Tryz.strings_Contains_one y 62 w')
      rw [HCN.out] at HCO
      have hrs : (revS y).size ≤ 13 := by rw [revS_size]; exact hys
      obtain ⟨z, hz⟩ : ∃ z, revS y = z := ⟨_, rfl⟩
      rw [hz] at HRV HY1 hrs
      clear hcl hy hz HCN
      cases hm : noM y
      · have HB1 := hid (HN1.out hm)
        rw [hm] at HCO
        clear hm HY1 HN1
        go_wp2_with fail
        refine (HCO.out _).mono ?_
        rintro e w3 ⟨rfl, rfl⟩
        go_wp2_with fail
        go_roundw
        case rel => exact ⟨k + 1, n, c', a', by omega, by go_num, rfl, by omega, hid (by rw [HB1.out]; exact hbl.out), hid (by rw [HB1.out]; exact hown.out), ha0, hsz, hx⟩
        case measure => simp [intOf]; omega
      · have HB1 := hid (HY1.out hm)
        rw [hm] at HCO
        clear hm HY1 HN1
        go_wp2_with fail
        refine (HCO.out _).mono ?_
        rintro e w3 ⟨rfl, rfl⟩
        go_wp2_with fail
        refine (HRV.out _).mono ?_
        rintro e w4 ⟨rfl, hx4⟩
        have hown2 := hown.out.ext hx4
        have hx5 := hx.trans hx4
        have hs4 := hx4.size
        clear hx4
        go_wp2_with (at_builtin; refine wpList_push rfl _ _ 24 rfl El_str rfl [_] rfl rfl (by simp [Value.oneCell']) hown2 (by omega) (by unfold maxLen; omega) (by omega) ?_; intro a3 c3 w5 hown3 hb3; have HO := hid hown3; clear hown3 hown2)
        go_roundw
        case rel => exact ⟨k + 1, n + 1, c3, a3, by omega, by go_num, rfl, by omega, hid (by rw [HB1.out, List.length_append, hbl.out]; rfl), hid (by rw [HB1.out]; simpa [strsV] using HO.out), hid (fun e => by omega), by have := hb3.size; omega, hx5.thenBelow hb3 (Nat.le_refl _)⟩
        case measure => simp [intOf]; omega
    · obtain rfl : k = S.length := by omega
      obtain ⟨M, hM⟩ : ∃ M, bkW S S.length = M := ⟨_, rfl⟩
      rw [hM] at hbl hown HBK
      obtain rfl : M.length = n := hbl.out
      have HST := hid (SortS_any a' c' w2.heap.size M wr hown.out (by omega) (by omega) (fun e => ⟨w2.heap.size, ha0.out (by rw [e]; rfl), Nat.le_refl _, by omega⟩))
      rw [HBK.out] at HST
      have HLL : Hid (M.length = l.length) := hid (by rw [← HBK.out, sortW_length])
      rw [HLL.out] at HST ⊢
      have HXR := hid hx
      clear hbl hown ha0 hM hn hlt HYS HNO HBL HSS
      go_wp2_with fail
      refine HST.out.mono ?_
      rintro e w3 ⟨rfl, ho3, hb3⟩
      have HR3 := hid ho3
      have hx3 : Ext w2 w3 := HXR.out.thenBelow hb3 (Nat.le_refl _)
      have RW3 := hid (HRW.out.ext hx3)
      have hX3 := hid (HX2.out.trans hx3)
      have L3 := hid (L2.out.ext hx3)
      clear ho3 hb3 hx3 HST HRW L2 HXR HX2 hx
      have hx4 := (Ext.refl w3).alloc (.cells #[.slice a' l.length c'] 26)
      have p4 : (w3.alloc (.cells #[.slice a' l.length c'] 26)).cell? ⟨w3.heap.size, 0, none⟩ = some (.slice a' l.length c') := by simp
      have HR4 := hid (HR3.out.ext hx4)
      have RW4 := hid (RW3.out.ext hx4)
      have HX4 := hid (hX3.out.trans hx4)
      have L4 := hid (L3.out.ext hx4)
      have hz3 := hX3.out.size
      clear HR3 RW3 hX3 L3 hx4
      go_wp2_with fail
      refine (HVL.out _ _ _ HR4.out.rd).mono ?_
      rintro e w5 ⟨rfl, hx⟩
      have p5 := hx.cell p4
      have HR5 := hid (HR4.out.ext hx)
      have RW5 := hid (RW4.out.ext hx)
      have HX5 := hid (HX4.out.trans hx)
      have L5 := hid (L4.out.ext hx)
      clear HR4 RW4 HX4 L4 hx p4
      go_wp2_with fail
      refine (HAF.out _ _ _ HR5.out.rd).mono ?_
      rintro e w6 ⟨a6, c6, rfl, -, hr6, hx⟩
      have R6 := hid hr6
      have p6 := hx.cell p5
      have HR6 := hid (HR5.out.ext hx)
      have RW6 := hid (RW5.out.ext hx)
      have HX6 := hid (HX5.out.trans hx)
      have L6 := hid (L5.out.ext hx)
      clear HR5 RW5 HX5 L5 hx p5 hr6
      go_wp2_with fail
      refine (EqualS_same a6 _ c6 cW S _ R6.out RW6.out (by omega)).mono ?_
      rintro e w7 ⟨rfl, hx⟩
      have p7 := hx.cell p6
      have HR7 := hid (HR6.out.ext hx)
      have HX7 := hid (HX6.out.trans hx)
      have L7 := hid (L6.out.ext hx)
      clear HR6 RW6 HX6 L6 hx p6 R6
      obtain ⟨G, hG⟩ : ∃ G, (w.alloc (.cells #[.slice aD LD.length cD] 30)).heap.size = G := ⟨_, rfl⟩
      have hG1 : G = w.heap.size + 1 := by rw [← hG]; simp
      rw [hG] at L7
      have r0 := L7.out.1
      have rf := L7.out.2 0
      have q0 := (L7.out.set (.slice a' l.length c')).1
      have qf := (L7.out.set (.slice a' l.length c')).2 0
      subst hG1
      have HF : Hid (Rd (w7.setCell ⟨w.heap.size + 1, 0, none⟩ (.slice a' l.length c')) a' (strsV l)) := hid (HR7.out.exc ((Exc.refl (w.heap.size + 1) w7).setCell 0 _) (by omega)).rd
      clear hG HR7
      go_wp2_with fail
      refine bodyPost_ret (v := .tuple #[lexV a' l.length c', .bool true]) (by simp [results, Tryz.results22, go_sem, q0, qf]) rfl ⟨a', c', rfl, HF.out, HX7.out.setCell (by simp) _⟩
end Go.Proofs.YtabljchbchjjcaaGreatDoor
