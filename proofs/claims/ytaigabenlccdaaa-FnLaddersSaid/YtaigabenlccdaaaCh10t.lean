/- LadderBetween, by the reference. Conditions: at most 2^20 words, each of at most 2^20 bytes. -/
import Derived.Test.YtaigabenlccdaaaCh10s
namespace Go.Proofs.Ytaigabenlccdaaa
set_option linter.unusedVariables false
set_option linter.unusedSimpArgs false
open Go Go.RowKit
theorem map_far_get (l : List ByteArray) (b k : Nat) (h : k < ((List.range l.length).map (far l b)).length) : ((List.range l.length).map (far l b))[k] = far l b k := by simp
set_option maxRecDepth 100000 in
set_option maxHeartbeats 4000000 in
theorem sLadderBetween_any (a : Option Addr) (c : Nat) (l : List ByteArray) (x y : ByteArray) (w : World) (h : Rd w a (strsV l)) (hl : l.length ≤ 1048576) (hs : ∀ s ∈ l, s.size ≤ 1048576) (hx : x.size ≤ 1048576) (hy : y.size ≤ 1048576) :
    Calls Try.prog 6 #[lexV a l.length c, .string x, .string y] w (RetW (ladL l x y) (ladC l x y) w) := by
  have HR : Hid (∀ w', Ext w w' → Rd w' a (strsV l)) := hid (fun w' k => h.ext k)
  have HLX : Hid (LxAt (w.alloc (.cells #[.slice a l.length c] 28)) w.heap.size 0 l) := hid ⟨a, c, by simp, h.ext ((Ext.refl w).alloc _)⟩
  have HV := hid (fun w1 (k : Ext (w.alloc (.cells #[.slice a l.length c] 28)) w1) => l05Ok_any w.heap.size 0 l w1 (HLX.out.ext k) hl hs)
  have HA := hid (fun z w' (k : Ext w w') => l05Has_any a c l z w' (h.ext k) hl)
  have HFI := hid (fun z w' (k : Ext w w') => l05First_any a c l z w' (h.ext k) hl)
  have HC : Hid (ladC l x y = if lexOk l then if hasL l x && hasL l y then if ladI l x y < 0 then 6 else 0 else 3 else 1) := hid rfl
  have HX : Hid (ladL l x y = if ladC l x y = 0 then ladW l x y ((ladI l x y).toNat + 1) else []) := hid rfl
  clear h
  cases hk : lexOk l
  · rw [hk] at HV HC
    have HC1 : Hid (ladC l x y = 1) := hid HC.out
    have HX1 : Hid (ladL l x y = []) := hid (by rw [HX.out, HC1.out]; rfl)
    clear hk
    go_enter Try.func6, Try.ntmps6
    go_wp2_with fail
    refine (HV.out _ (Ext.refl _)).mono ?_
    rintro e w1 ⟨rfl, hD⟩
    have hE := ((Ext.refl w).alloc _).trans hD.ext
    clear hD
    go_wp2_with fail
    go_returns
    exact ⟨none, 0, by rw [HX1.out, HC1.out]; rfl, by rw [HX1.out]; exact .inl rfl, hE⟩
  cases hxa : hasL l x
  · rw [hk] at HV HC
    rw [hxa] at HC
    have HC1 : Hid (ladC l x y = 3) := hid HC.out
    have HX1 : Hid (ladL l x y = []) := hid (by rw [HX.out, HC1.out]; rfl)
    have HA1 := hid (HA.out x)
    rw [hxa] at HA1
    clear hk hxa
    go_enter Try.func6, Try.ntmps6
    go_wp2_with fail
    refine (HV.out _ (Ext.refl _)).mono ?_
    rintro e w1 ⟨rfl, hD⟩
    have b0 := hD.ext.cell (b := w.heap.size) (o := 0) (v := .slice a l.length c) (by simp)
    have hE := ((Ext.refl w).alloc (.cells #[.slice a l.length c] 28)).trans hD.ext
    clear hD
    go_wp2_with fail
    refine (HA1.out _ hE).mono ?_
    rintro e w2 ⟨rfl, hD⟩
    replace hE := hE.trans hD.ext
    clear hD
    go_wp2_with fail
    go_returns
    exact ⟨none, 0, by rw [HX1.out, HC1.out]; rfl, by rw [HX1.out]; exact .inl rfl, hE⟩
  cases hyb : hasL l y
  · rw [hk] at HV HC
    rw [hxa, hyb] at HC
    have HC1 : Hid (ladC l x y = 3) := hid HC.out
    have HX1 : Hid (ladL l x y = []) := hid (by rw [HX.out, HC1.out]; rfl)
    have HA1 := hid (HA.out x)
    rw [hxa] at HA1
    have HA2 := hid (HA.out y)
    rw [hyb] at HA2
    clear hk hxa hyb
    go_enter Try.func6, Try.ntmps6
    go_wp2_with fail
    refine (HV.out _ (Ext.refl _)).mono ?_
    rintro e w1 ⟨rfl, hD⟩
    have b0 := hD.ext.cell (b := w.heap.size) (o := 0) (v := .slice a l.length c) (by simp)
    have hE := ((Ext.refl w).alloc (.cells #[.slice a l.length c] 28)).trans hD.ext
    clear hD
    go_wp2_with fail
    with_reducible refine (HA1.out _ hE).mono ?_
    rintro e w2 ⟨rfl, hD⟩
    replace hE := hE.trans hD.ext
    replace b0 := hD.ext.cell b0
    clear hD
    go_wp2_with fail
    with_reducible refine (HA2.out _ hE).mono ?_
    rintro e w3 ⟨rfl, hD⟩
    replace hE := hE.trans hD.ext
    clear hD
    go_wp2_with fail
    go_returns
    exact ⟨none, 0, by rw [HX1.out, HC1.out]; rfl, by rw [HX1.out]; exact .inl rfl, hE⟩
  · rw [hk] at HV HC
    rw [hxa, hyb] at HC
    have HA1 := hid (HA.out x)
    rw [hxa] at HA1
    have HA2 := hid (HA.out y)
    rw [hyb] at HA2
    have hl2 := lexOk_200 hk
    have HFR := hid (fun w1 (k : Ext (w.alloc (.cells #[.slice a l.length c] 28)) w1) => l10Far_any w.heap.size 0 l y w1 (HLX.out.ext k) hk hyb hs)
    have HFI1 := hid (HFI.out x)
    obtain ⟨hia, hwa⟩ := hasL_at hxa
    have HC2 : Hid (ladC l x y = if ladI l x y < 0 then 6 else 0) := hid HC.out
    have HLI : Hid (ladI l x y = far l (posL l y) (posL l x)) := hid rfl
    have HLW : Hid (∀ m, ladW l x y (m + 1) = ladW l x y m ++ [wAt l (pn l (posL l y) (posL l x) m)]) := hid (ladW_succ l x y)
    have HW1 : Hid (ladW l x y 1 = [x]) := hid (by rw [show (1 : Nat) = 0 + 1 from rfl, HLW.out]; simp [ladW, pn, hwa])
    have HPN := hid (fun E hE => pn_at (l := l) (b := posL l y) (ia := posL l x) (E := E) hia hE)
    have HPS := hid (fun k e h => @par_spec l (posL l y) k e h)
    have HPN1 : Hid (∀ t, pn l (posL l y) (posL l x) (t + 1) = par l (posL l y) (far l (posL l y) (pn l (posL l y) (posL l x) t)) (pn l (posL l y) (posL l x) t)) := hid (fun t => rfl)
    have HPN0 : Hid (pn l (posL l y) (posL l x) 0 = posL l x) := hid rfl
    have HFL := hid (far_le l (posL l y))
    have HMG := hid (map_far_get l (posL l y))
    have HML : Hid (((List.range l.length).map (far l (posL l y))).length = l.length) := hid (by simp)
    have HLNG := hid (ladW_length l x y)
    have HNE := hid (fun i k w (hi : i < l.length) (hk : k < l.length) => l10Near_any (wAt l i) (wAt l k) w (hs _ (wAt_mem l i hi)) (hs _ (wAt_mem l k hk)))
    have HNR : Hid (∀ i k, nearB (wAt l i) (wAt l k) = nr l k i) := hid (fun i k => nr_comm l i k)
    obtain ⟨ia, hia'⟩ : ∃ ia, posL l x = ia := ⟨_, rfl⟩
    obtain ⟨ib, hib'⟩ : ∃ ib, posL l y = ib := ⟨_, rfl⟩
    rw [hia'] at hia HFI1 HLI HLW HPN HPN1 HPN0
    rw [hib'] at HFR HLI HLW HPN HPS HPN1 HPN0 HFL HMG HML
    clear hk hxa hyb hwa hia' hib' HLX HC
    go_enter Try.func6, Try.ntmps6
    go_wp2_with fail
    refine (HV.out _ (Ext.refl _)).mono ?_
    rintro e w1 ⟨rfl, hD⟩
    have HE1 := hid hD.ext
    have b0 := hD.ext.cell (b := w.heap.size) (o := 0) (v := .slice a l.length c) (by simp)
    have hE := ((Ext.refl w).alloc (.cells #[.slice a l.length c] 28)).trans hD.ext
    clear hD
    go_wp2_with fail
    with_reducible refine (HA1.out _ hE).mono ?_
    rintro e w2 ⟨rfl, hD⟩
    replace hE := hE.trans hD.ext
    replace b0 := hD.ext.cell b0
    replace HE1 := hid (HE1.out.trans hD.ext)
    clear hD
    go_wp2_with fail
    with_reducible refine (HA2.out _ hE).mono ?_
    rintro e w3 ⟨rfl, hD⟩
    replace hE := hE.trans hD.ext
    replace b0 := hD.ext.cell b0
    replace HE1 := hid (HE1.out.trans hD.ext)
    clear hD
    go_wp2_with fail
    refine (HFR.out _ HE1.out).mono ?_
    rintro e w4 ⟨fa, fc, rfl, hown, hx4⟩
    rw [intsV_length, HML.out]
    replace hE := hE.trans hx4
    replace b0 := hx4.cell b0
    have HF := hid hown.rd
    clear hx4 hown HE1 HFR HV
    go_wp2_with fail
    refine (HFI1.out _ hE).mono ?_
    rintro e w5 ⟨rfl, hD⟩
    replace hE := hE.trans hD.ext
    replace b0 := hD.ext.cell b0
    obtain ⟨fg, fo, rfl, hfc⟩ := (HF.out.ext hD.ext).int (by rw [HML.out]; omega)
    have HFC : Hid (∀ w', Ext w5 w' → ∀ k, k < l.length → w'.cell? ⟨fg, fo + k, none⟩ = some (.int .i64 (far l ib k))) := hid (fun w' hx k hk => by
      have := hfc k (by rw [HML.out]; exact hk)
      rw [HMG.out] at this
      exact hx.cell this)
    have HB0 := hid (fun w' (k : Ext w5 w') => k.cell b0)
    have HE5 := hid hE
    have hca := HFC.out _ (Ext.refl _) ia hia
    rw [← HLI.out] at hca
    clear hD hfc HF
    by_cases hneg : ladI l x y < 0
    · have HC1 : Hid (ladC l x y = 6) := hid (by rw [HC2.out, if_pos hneg])
      have HX1 : Hid (ladL l x y = []) := hid (by rw [HX.out, HC1.out]; rfl)
      go_wp2_with fail
      go_returns
      exact ⟨none, 0, by rw [HX1.out, HC1.out]; rfl, by rw [HX1.out]; exact .inl rfl, hE⟩
    · obtain ⟨E, hEE⟩ : ∃ E : Nat, ladI l x y = (E : Int) := ⟨(ladI l x y).toNat, by omega⟩
      have HC1 : Hid (ladC l x y = 0) := hid (by rw [HC2.out, if_neg hneg])
      have HX1 : Hid (ladL l x y = ladW l x y (E + 1)) := hid (by rw [HX.out, HC1.out, if_pos rfl, hEE]; rfl)
      rw [HLI.out] at hEE
      have HPA := hid (HPN.out E hEE)
      have hE200 : E ≤ l.length := by have := HFL.out ia; omega
      rw [HLI.out, hEE] at hca
      clear hneg hEE HC2 HX HPN HFL
      go_wp2_with fail
      have hext0 : Ext w (w5.alloc (.cells #[.string x] 9)) := hE.alloc _
      have HOW : Hid (Own (w5.alloc (.cells #[.string x] 9)) w5.heap.size 9 1 (some ⟨w5.heap.size, 0, none⟩) 1 1 [.string x]) := hid (.inr ⟨rfl, .inr ⟨w5.heap.size, 1, #[.string x], rfl, Nat.le_refl _, heap_alloc_new w5 _, by omega, by decide, rfl, rfl⟩⟩)
      go_loopw [9, 10, 11] (fun at_ v nx wr => ∃ (t cap : Nat) (a' : Option Addr), t ≤ E ∧ at_ = .int .i64 ((pn l ib ia t : Nat) : Int) ∧ v = .slice a' (t + 1) cap ∧ Own wr w5.heap.size 9 1 a' (t + 1) cap (strsV (ladW l x y (t + 1))) ∧ Ext w5 wr) (fun at_ _ _ _ => (far l ib (intOf at_).toNat).toNat)
      case atStart => exact ⟨0, 1, some ⟨w5.heap.size, 0, none⟩, by omega, by rw [HPN0.out], rfl, by rw [show (0 + 1 : Nat) = 1 from rfl, HW1.out]; exact HOW.out, (Ext.refl w5).alloc _⟩
      case round =>
        clear HOW hext0 hca b0 hE
        obtain ⟨t, cap, a', ht, rfl, rfl, hown, hyy⟩ := hrel
        obtain ⟨hpl, hpf⟩ := HPA.out t ht
        have HP1 := hid (HPN1.out t)
        obtain ⟨p, hp⟩ : ∃ p, pn l ib ia t = p := ⟨_, rfl⟩
        rw [hp] at hpl hpf HP1 ⊢
        have hcp := HFC.out _ hyy p hpl
        have HWS := hid (HLW.out (t + 1))
        have HOW := hid hown
        have HLT := hid (HLW.out t)
        have hsz := hyy.size
        clear hown hp
        by_cases hte : t < E
        · have HPS1 := HPS.out p (E - (t + 1)) (by rw [hpf]; congr 1; omega)
          rw [hpf] at hcp HPS1 HP1
          obtain ⟨P, hP⟩ : ∃ P, par l ib ((E - t : Nat) : Int) p = P := ⟨_, rfl⟩
          rw [hP] at HPS1 HP1
          obtain ⟨g1, g2, g3, g4⟩ := HPS1
          have HG2 := hid g2
          have HG3 := hid g3
          have HG4 := hid g4
          have HPF := hid hpf
          obtain ⟨zz, hzz⟩ : ∃ zz : Int, ((E - t : Nat) : Int) = zz := ⟨_, rfl⟩
          have hz1 : 1 ≤ zz := by omega
          have hz2 : zz ≤ 200 := by omega
          have hwz : IntKind.i64.wrap (zz - 1) = zz - 1 := by simp [IntKind.wrap, IntKind.bits, IntKind.signed]; omega
          have HZE : Hid (((E - (t + 1) : Nat) : Int) = zz - 1) := hid (by omega)
          rw [hzz] at hcp
          clear g2 g3 g4 hpf hP hzz
          go_wp2_with fail
          go_loopw [11] (fun nx wq => ∃ j : Nat, j ≤ P ∧ nx = .int .i64 (j : Int) ∧ Ext w5 wq ∧ Hid (Own wq w5.heap.size 9 1 a' (t + 1) cap (strsV (ladW l x y (t + 1))))) (fun nx _ => l.length - (intOf nx).toNat)
          case atStart => exact ⟨0, by omega, rfl, hyy, HOW⟩
          case round =>
            clear hyy HOW hcp hsz
            obtain ⟨j, hj, rfl, hyy, HOW⟩ := hrel
            have hjl : j < l.length := by omega
            have hcp := HFC.out _ hyy p hpl
            rw [HPF.out] at hcp
            have hcj := HFC.out _ hyy j hjl
            have hb := HB0.out _ hyy
            have hsz := hyy.size
            obtain ⟨b, o, rfl, hc⟩ := (HR.out _ (HE5.out.trans hyy)).word (by omega)
            have hc1 := hc p hpl
            have hc2 := hc j hjl
            have HNk := hid (fun w => HNE.out p j w hpl hjl)
            rw [HNR.out] at HNk
            have hfb : far l ib j = zz - 1 ∧ nr l j p = true → P ≤ j := fun h => by
              rcases Nat.lt_or_ge j P with hlt | hge
              · exact absurd ⟨by rw [h.1]; exact HZE.out.symm, h.2⟩ (HG4.out j hlt)
              · exact hge
            have hfp : P = j → far l ib j = zz - 1 ∧ nr l j p = true := fun h => by
              subst h
              exact ⟨by rw [HG2.out]; exact HZE.out, HG3.out⟩
            have hrr : ((E - t : Nat) : Int) = zz := by have := HZE.out; omega
            rw [hrr] at hcp
            obtain ⟨uu, huu⟩ : ∃ u, far l ib j = u := ⟨_, rfl⟩
            rw [huu] at hcj hfb hfp
            obtain ⟨B, hB⟩ : ∃ B, nr l j p = B := ⟨_, rfl⟩
            rw [hB] at HNk hfb hfp
            obtain ⟨s1, hs1⟩ : ∃ s, wAt l p = s := ⟨_, rfl⟩
            obtain ⟨s2, hs2⟩ : ∃ s, wAt l j = s := ⟨_, rfl⟩
            rw [hs1] at hc1 HNk
            rw [hs2] at hc2 HNk
            have HS2 := hid hs2
            have HFB := hid hfb
            have HFP := hid hfp
            obtain ⟨q1, hq1⟩ : ∃ q, fo + j = q := ⟨_, rfl⟩
            obtain ⟨q2, hq2⟩ : ∃ q, fo + p = q := ⟨_, rfl⟩
            obtain ⟨r1, hr1⟩ : ∃ q, o + p = q := ⟨_, rfl⟩
            obtain ⟨r2, hr2⟩ : ∃ q, o + j = q := ⟨_, rfl⟩
            rw [hq1] at hcj
            rw [hq2] at hcp
            rw [hr1] at hc1
            rw [hr2] at hc2
            clear hc huu hB hs1 hs2 hfb hfp hrr
            by_cases hjP : j < P
            · by_cases hu : uu = zz - 1
              · obtain rfl : B = false := by
                  cases B
                  · rfl
                  · exact absurd (HFB.out ⟨hu, rfl⟩) (by omega)
                go_wp2_with fail
                refine wp_region_flow_at (C := Ext) 24 [fun v _ => v = .slice (some ⟨fg, fo, none⟩) l.length fc, fun v _ => v = .int .i64 (j : Int), fun v _ => v = .pointer (some ⟨fg, q1, none⟩), fun v _ => v = .int .i64 uu, fun v _ => v = .slice (some ⟨fg, fo, none⟩) l.length fc, fun v _ => v = .int .i64 (p : Int), fun v _ => v = .pointer (some ⟨fg, q2, none⟩), fun v _ => v = .int .i64 zz, fun v _ => v = .int .i64 (zz - 1), fun v _ => v = .bool false, fun v _ => v = .bool false, fun v _ => v = .pointer (some ⟨w.heap.size, 0, none⟩), fun v _ => v = .slice (some ⟨b, o, none⟩) l.length c, fun v _ => v = .int .i64 (p : Int), fun v _ => v = .pointer (some ⟨b, r1, none⟩), fun v _ => v = .string s1, fun v _ => v = .pointer (some ⟨w.heap.size, 0, none⟩), fun v _ => v = .slice (some ⟨b, o, none⟩) l.length c, fun v _ => v = .int .i64 (j : Int), fun v _ => v = .pointer (some ⟨b, r2, none⟩), fun v _ => v = .string s2, fun v _ => v = .bool false, fun v _ => v = .bool true, fun v _ => v = .bool true]
                  [[(8, none)], [(11, none)], [(44, some 0), (45, some 1)], [(46, some 2)], [(8, none)], [(9, none)], [(48, some 4), (49, some 5)], [(50, some 6)], [(51, some 7)], [(47, some 3), (52, some 8)], [(53, some 9)], [(3, none)], [(55, some 11)], [(9, none)], [(56, some 12), (57, some 13)], [(58, some 14)], [(3, none)], [(60, some 16)], [(11, none)], [(61, some 17), (62, some 18)], [(63, some 19)], [(59, some 15), (64, some 20)], [(65, some 21)], [(54, some 10), (66, some 22)]] (by kernel_rfl) (by kernel_rfl) Ext.refl (fun _ _ _ => Ext.trans) ?_ ?_ ?_
                · intro F hF
                  simp only [List.mem_cons, List.not_mem_nil, or_false] at hF
                  rcases hF with rfl | rfl | rfl | rfl | rfl | rfl | rfl | rfl | rfl | rfl | rfl | rfl | rfl | rfl | rfl | rfl | rfl | rfl | rfl | rfl | rfl | rfl | rfl | rfl <;> exact fun _ _ _ h _ => h
                · refine ⟨?_, ?_, ?_, ?_, ?_, ?_, ?_, ?_, ?_, ?_, ?_, ?_, ?_, ?_, ?_, ?_, ?_, ?_, ?_, ?_, ?_, ?_, ?_, ?_, trivial⟩
                  · rintro ρ w1 hw hcst hfn hk
                    clear hw
                    simp only [known, List.getD_cons_zero, List.getD_cons_succ, Nat.reduceAdd] at hk
                    simp only [List.getD_cons_zero, List.getD_cons_succ, Nat.reduceAdd, flowAt]
                    go_simp
                    exact ⟨Ext.refl _, by first | rfl | trivial⟩
                  · rintro ρ w1 hw hcst hfn hk
                    clear hw
                    simp only [known, List.getD_cons_zero, List.getD_cons_succ, Nat.reduceAdd] at hk
                    simp only [List.getD_cons_zero, List.getD_cons_succ, Nat.reduceAdd, flowAt]
                    go_simp
                    exact ⟨Ext.refl _, by first | rfl | trivial⟩
                  · rintro ρ w1 hw hcst hfn hk
                    simp only [known, List.getD_cons_zero, List.getD_cons_succ, Nat.reduceAdd] at hk
                    simp only [List.getD_cons_zero, List.getD_cons_succ, Nat.reduceAdd, flowAt]
                    go_simp
                    exact ⟨Ext.refl _, by first | rfl | rw [hq1]⟩
                  · rintro ρ w1 hw hcst hfn hk
                    have c0 := hw.cell (b := fg) (o := q1) (v := .int .i64 uu) (by first | (simp [*]; done) | (simp [*, go_sem]; done) | go_cell)
                    clear hw
                    simp only [known, List.getD_cons_zero, List.getD_cons_succ, Nat.reduceAdd] at hk
                    simp only [List.getD_cons_zero, List.getD_cons_succ, Nat.reduceAdd, flowAt]
                    go_simp
                    exact ⟨Ext.refl _, by first | rfl | trivial⟩
                  · rintro ρ w1 hw hcst hfn hk
                    clear hw
                    simp only [known, List.getD_cons_zero, List.getD_cons_succ, Nat.reduceAdd] at hk
                    simp only [List.getD_cons_zero, List.getD_cons_succ, Nat.reduceAdd, flowAt]
                    go_simp
                    exact ⟨Ext.refl _, by first | rfl | trivial⟩
                  · rintro ρ w1 hw hcst hfn hk
                    clear hw
                    simp only [known, List.getD_cons_zero, List.getD_cons_succ, Nat.reduceAdd] at hk
                    simp only [List.getD_cons_zero, List.getD_cons_succ, Nat.reduceAdd, flowAt]
                    go_simp
                    exact ⟨Ext.refl _, by first | rfl | trivial⟩
                  · rintro ρ w1 hw hcst hfn hk
                    simp only [known, List.getD_cons_zero, List.getD_cons_succ, Nat.reduceAdd] at hk
                    simp only [List.getD_cons_zero, List.getD_cons_succ, Nat.reduceAdd, flowAt]
                    go_simp
                    exact ⟨Ext.refl _, by first | rfl | rw [hq2]⟩
                  · rintro ρ w1 hw hcst hfn hk
                    have c0 := hw.cell (b := fg) (o := q2) (v := .int .i64 zz) (by first | (simp [*]; done) | (simp [*, go_sem]; done) | go_cell)
                    clear hw
                    simp only [known, List.getD_cons_zero, List.getD_cons_succ, Nat.reduceAdd] at hk
                    simp only [List.getD_cons_zero, List.getD_cons_succ, Nat.reduceAdd, flowAt]
                    go_simp
                    exact ⟨Ext.refl _, by first | rfl | trivial⟩
                  · rintro ρ w1 hw hcst hfn hk
                    clear hw
                    simp only [known, List.getD_cons_zero, List.getD_cons_succ, Nat.reduceAdd] at hk
                    simp only [List.getD_cons_zero, List.getD_cons_succ, Nat.reduceAdd, flowAt]
                    go_simp
                    exact ⟨Ext.refl _, by first | rfl | trivial⟩
                  · rintro ρ w1 hw hcst hfn hk
                    simp only [known, List.getD_cons_zero, List.getD_cons_succ, Nat.reduceAdd] at hk
                    simp only [List.getD_cons_zero, List.getD_cons_succ, Nat.reduceAdd, flowAt]
                    go_simp
                    (first | exact ⟨Ext.refl _, rfl⟩ | exact ⟨Ext.refl _, by simp [hu]⟩ | exact ⟨Ext.refl _, by simp; omega⟩)
                  · rintro ρ w1 hw hcst hfn hk
                    clear hw
                    simp only [known, List.getD_cons_zero, List.getD_cons_succ, Nat.reduceAdd] at hk
                    simp only [List.getD_cons_zero, List.getD_cons_succ, Nat.reduceAdd, flowAt]
                    go_simp
                    exact ⟨Ext.refl _, by first | rfl | trivial⟩
                  · rintro ρ w1 hw hcst hfn hk
                    clear hw
                    simp only [known, List.getD_cons_zero, List.getD_cons_succ, Nat.reduceAdd] at hk
                    simp only [List.getD_cons_zero, List.getD_cons_succ, Nat.reduceAdd, flowAt]
                    rintro vg rfl
                    refine ⟨fun hg => ?_, fun hg => ?_⟩ <;> simp at hg
                    go_simp
                    exact ⟨Ext.refl _, by first | rfl | trivial⟩
                  · rintro ρ w1 hw hcst hfn hk
                    have c0 := hw.cell (b := w.heap.size) (o := 0) (v := .slice (some ⟨b, o, none⟩) l.length c) (by first | (simp [*]; done) | (simp [*, go_sem]; done) | go_cell)
                    clear hw
                    simp only [known, List.getD_cons_zero, List.getD_cons_succ, Nat.reduceAdd] at hk
                    simp only [List.getD_cons_zero, List.getD_cons_succ, Nat.reduceAdd, flowAt]
                    rintro vg rfl
                    refine ⟨fun hg => ?_, fun hg => ?_⟩ <;> simp at hg
                    go_simp
                    exact ⟨Ext.refl _, by first | rfl | trivial⟩
                  · rintro ρ w1 hw hcst hfn hk
                    clear hw
                    simp only [known, List.getD_cons_zero, List.getD_cons_succ, Nat.reduceAdd] at hk
                    simp only [List.getD_cons_zero, List.getD_cons_succ, Nat.reduceAdd, flowAt]
                    rintro vg rfl
                    refine ⟨fun hg => ?_, fun hg => ?_⟩ <;> simp at hg
                    go_simp
                    exact ⟨Ext.refl _, by first | rfl | trivial⟩
                  · rintro ρ w1 hw hcst hfn hk
                    simp only [known, List.getD_cons_zero, List.getD_cons_succ, Nat.reduceAdd] at hk
                    simp only [List.getD_cons_zero, List.getD_cons_succ, Nat.reduceAdd, flowAt]
                    rintro vg rfl
                    refine ⟨fun hg => ?_, fun hg => ?_⟩ <;> simp at hg
                    go_simp
                    exact ⟨Ext.refl _, by first | rfl | rw [hr1]⟩
                  · rintro ρ w1 hw hcst hfn hk
                    have c0 := hw.cell (b := b) (o := r1) (v := .string s1) (by first | (simp [*]; done) | (simp [*, go_sem]; done) | go_cell)
                    clear hw
                    simp only [known, List.getD_cons_zero, List.getD_cons_succ, Nat.reduceAdd] at hk
                    simp only [List.getD_cons_zero, List.getD_cons_succ, Nat.reduceAdd, flowAt]
                    rintro vg rfl
                    refine ⟨fun hg => ?_, fun hg => ?_⟩ <;> simp at hg
                    go_simp
                    exact ⟨Ext.refl _, by first | rfl | trivial⟩
                  · rintro ρ w1 hw hcst hfn hk
                    clear hw
                    simp only [known, List.getD_cons_zero, List.getD_cons_succ, Nat.reduceAdd] at hk
                    simp only [List.getD_cons_zero, List.getD_cons_succ, Nat.reduceAdd, flowAt]
                    rintro vg rfl
                    refine ⟨fun hg => ?_, fun hg => ?_⟩ <;> simp at hg
                    go_simp
                    exact ⟨Ext.refl _, by first | rfl | trivial⟩
                  · rintro ρ w1 hw hcst hfn hk
                    have c0 := hw.cell (b := w.heap.size) (o := 0) (v := .slice (some ⟨b, o, none⟩) l.length c) (by first | (simp [*]; done) | (simp [*, go_sem]; done) | go_cell)
                    clear hw
                    simp only [known, List.getD_cons_zero, List.getD_cons_succ, Nat.reduceAdd] at hk
                    simp only [List.getD_cons_zero, List.getD_cons_succ, Nat.reduceAdd, flowAt]
                    rintro vg rfl
                    refine ⟨fun hg => ?_, fun hg => ?_⟩ <;> simp at hg
                    go_simp
                    exact ⟨Ext.refl _, by first | rfl | trivial⟩
                  · rintro ρ w1 hw hcst hfn hk
                    clear hw
                    simp only [known, List.getD_cons_zero, List.getD_cons_succ, Nat.reduceAdd] at hk
                    simp only [List.getD_cons_zero, List.getD_cons_succ, Nat.reduceAdd, flowAt]
                    rintro vg rfl
                    refine ⟨fun hg => ?_, fun hg => ?_⟩ <;> simp at hg
                    go_simp
                    exact ⟨Ext.refl _, by first | rfl | trivial⟩
                  · rintro ρ w1 hw hcst hfn hk
                    simp only [known, List.getD_cons_zero, List.getD_cons_succ, Nat.reduceAdd] at hk
                    simp only [List.getD_cons_zero, List.getD_cons_succ, Nat.reduceAdd, flowAt]
                    rintro vg rfl
                    refine ⟨fun hg => ?_, fun hg => ?_⟩ <;> simp at hg
                    go_simp
                    exact ⟨Ext.refl _, by first | rfl | rw [hr2]⟩
                  · rintro ρ w1 hw hcst hfn hk
                    have c0 := hw.cell (b := b) (o := r2) (v := .string s2) (by first | (simp [*]; done) | (simp [*, go_sem]; done) | go_cell)
                    clear hw
                    simp only [known, List.getD_cons_zero, List.getD_cons_succ, Nat.reduceAdd] at hk
                    simp only [List.getD_cons_zero, List.getD_cons_succ, Nat.reduceAdd, flowAt]
                    rintro vg rfl
                    refine ⟨fun hg => ?_, fun hg => ?_⟩ <;> simp at hg
                    go_simp
                    exact ⟨Ext.refl _, by first | rfl | trivial⟩
                  · rintro ρ w1 hw hcst hfn hk
                    simp only [known, List.getD_cons_zero, List.getD_cons_succ, Nat.reduceAdd] at hk
                    simp only [List.getD_cons_zero, List.getD_cons_succ, Nat.reduceAdd, flowAt]
                    rintro vg rfl
                    refine ⟨fun hg => ?_, fun hg => ?_⟩ <;> simp at hg
                    go_simp
                    exact flow_dr (HNk.out _)
                  · rintro ρ w1 hw hcst hfn hk
                    clear hw
                    simp only [known, List.getD_cons_zero, List.getD_cons_succ, Nat.reduceAdd] at hk
                    simp only [List.getD_cons_zero, List.getD_cons_succ, Nat.reduceAdd, flowAt]
                    rintro vg rfl
                    refine ⟨fun hg => ?_, fun hg => ?_⟩ <;> simp at hg
                    go_simp
                    exact ⟨Ext.refl _, by first | rfl | trivial⟩
                  · rintro ρ w1 hw hcst hfn hk
                    clear hw
                    simp only [known, List.getD_cons_zero, List.getD_cons_succ, Nat.reduceAdd] at hk
                    simp only [List.getD_cons_zero, List.getD_cons_succ, Nat.reduceAdd, flowAt]
                    go_simp
                    exact ⟨Ext.refl _, by first | rfl | trivial⟩
                intro vs w1 hw hf
                simp only [flowFacts, Nat.reduceAdd] at hf
                obtain ⟨e0, e1, e2, e3, e4, e5, e6, e7, e8, e9, e10, e11, e12, e13, e14, e15, e16, e17, e18, e19, e20, e21, e22, e23, -⟩ := hf
                simp only [List.take_succ_cons, List.take_zero, List.drop_succ_cons, List.drop_zero, putAll, Act.put, Nat.reduceAdd, List.setIfInBounds_toArray, List.set_cons_zero, List.set_cons_succ, e0, e1, e2, e3, e4, e5, e6, e7, e8, e9, e10, e11, e12, e13, e14, e15, e16, e17, e18, e19, e20, e21, e22, e23]
                clear e0 e1 e2 e3 e4 e5 e6 e7 e8 e9 e10 e11 e12 e13 e14 e15 e16 e17 e18 e19 e20 e21 e22 e23
                have hy1 := hyy.trans ((Ext.refl _).drew.trans hw)
                have HOW1 := hid (HOW.out.ext ((Ext.refl _).drew.trans hw))
                clear hw
                go_wp2_with fail
                go_roundw
                case rel => exact ⟨j + 1, by omega, by go_num, hy1, HOW1⟩
                case measure => simp [intOf]; omega
              · have hu' := hu
                go_wp2_with fail
                refine wp_region_flow_at (C := Ext) 24 [fun v _ => v = .slice (some ⟨fg, fo, none⟩) l.length fc, fun v _ => v = .int .i64 (j : Int), fun v _ => v = .pointer (some ⟨fg, q1, none⟩), fun v _ => v = .int .i64 uu, fun v _ => v = .slice (some ⟨fg, fo, none⟩) l.length fc, fun v _ => v = .int .i64 (p : Int), fun v _ => v = .pointer (some ⟨fg, q2, none⟩), fun v _ => v = .int .i64 zz, fun v _ => v = .int .i64 (zz - 1), fun v _ => v = .bool true, fun v _ => v = .bool true, fun v _ => v = undef, fun v _ => v = undef, fun v _ => v = undef, fun v _ => v = undef, fun v _ => v = undef, fun v _ => v = undef, fun v _ => v = undef, fun v _ => v = undef, fun v _ => v = undef, fun v _ => v = undef, fun v _ => v = undef, fun v _ => v = undef, fun v _ => v = .bool true]
                  [[(8, none)], [(11, none)], [(44, some 0), (45, some 1)], [(46, some 2)], [(8, none)], [(9, none)], [(48, some 4), (49, some 5)], [(50, some 6)], [(51, some 7)], [(47, some 3), (52, some 8)], [(53, some 9)], [(3, none)], [(55, some 11)], [(9, none)], [(56, some 12), (57, some 13)], [(58, some 14)], [(3, none)], [(60, some 16)], [(11, none)], [(61, some 17), (62, some 18)], [(63, some 19)], [(59, some 15), (64, some 20)], [(65, some 21)], [(54, some 10), (66, some 22)]] (by kernel_rfl) (by kernel_rfl) Ext.refl (fun _ _ _ => Ext.trans) ?_ ?_ ?_
                · intro F hF
                  simp only [List.mem_cons, List.not_mem_nil, or_false] at hF
                  rcases hF with rfl | rfl | rfl | rfl | rfl | rfl | rfl | rfl | rfl | rfl | rfl | rfl | rfl | rfl | rfl | rfl | rfl | rfl | rfl | rfl | rfl | rfl | rfl | rfl <;> exact fun _ _ _ h _ => h
                · refine ⟨?_, ?_, ?_, ?_, ?_, ?_, ?_, ?_, ?_, ?_, ?_, ?_, ?_, ?_, ?_, ?_, ?_, ?_, ?_, ?_, ?_, ?_, ?_, ?_, trivial⟩
                  · rintro ρ w1 hw hcst hfn hk
                    clear hw
                    simp only [known, List.getD_cons_zero, List.getD_cons_succ, Nat.reduceAdd] at hk
                    simp only [List.getD_cons_zero, List.getD_cons_succ, Nat.reduceAdd, flowAt]
                    go_simp
                    exact ⟨Ext.refl _, by first | rfl | trivial⟩
                  · rintro ρ w1 hw hcst hfn hk
                    clear hw
                    simp only [known, List.getD_cons_zero, List.getD_cons_succ, Nat.reduceAdd] at hk
                    simp only [List.getD_cons_zero, List.getD_cons_succ, Nat.reduceAdd, flowAt]
                    go_simp
                    exact ⟨Ext.refl _, by first | rfl | trivial⟩
                  · rintro ρ w1 hw hcst hfn hk
                    simp only [known, List.getD_cons_zero, List.getD_cons_succ, Nat.reduceAdd] at hk
                    simp only [List.getD_cons_zero, List.getD_cons_succ, Nat.reduceAdd, flowAt]
                    go_simp
                    exact ⟨Ext.refl _, by first | rfl | rw [hq1]⟩
                  · rintro ρ w1 hw hcst hfn hk
                    have c0 := hw.cell (b := fg) (o := q1) (v := .int .i64 uu) (by first | (simp [*]; done) | (simp [*, go_sem]; done) | go_cell)
                    clear hw
                    simp only [known, List.getD_cons_zero, List.getD_cons_succ, Nat.reduceAdd] at hk
                    simp only [List.getD_cons_zero, List.getD_cons_succ, Nat.reduceAdd, flowAt]
                    go_simp
                    exact ⟨Ext.refl _, by first | rfl | trivial⟩
                  · rintro ρ w1 hw hcst hfn hk
                    clear hw
                    simp only [known, List.getD_cons_zero, List.getD_cons_succ, Nat.reduceAdd] at hk
                    simp only [List.getD_cons_zero, List.getD_cons_succ, Nat.reduceAdd, flowAt]
                    go_simp
                    exact ⟨Ext.refl _, by first | rfl | trivial⟩
                  · rintro ρ w1 hw hcst hfn hk
                    clear hw
                    simp only [known, List.getD_cons_zero, List.getD_cons_succ, Nat.reduceAdd] at hk
                    simp only [List.getD_cons_zero, List.getD_cons_succ, Nat.reduceAdd, flowAt]
                    go_simp
                    exact ⟨Ext.refl _, by first | rfl | trivial⟩
                  · rintro ρ w1 hw hcst hfn hk
                    simp only [known, List.getD_cons_zero, List.getD_cons_succ, Nat.reduceAdd] at hk
                    simp only [List.getD_cons_zero, List.getD_cons_succ, Nat.reduceAdd, flowAt]
                    go_simp
                    exact ⟨Ext.refl _, by first | rfl | rw [hq2]⟩
                  · rintro ρ w1 hw hcst hfn hk
                    have c0 := hw.cell (b := fg) (o := q2) (v := .int .i64 zz) (by first | (simp [*]; done) | (simp [*, go_sem]; done) | go_cell)
                    clear hw
                    simp only [known, List.getD_cons_zero, List.getD_cons_succ, Nat.reduceAdd] at hk
                    simp only [List.getD_cons_zero, List.getD_cons_succ, Nat.reduceAdd, flowAt]
                    go_simp
                    exact ⟨Ext.refl _, by first | rfl | trivial⟩
                  · rintro ρ w1 hw hcst hfn hk
                    clear hw
                    simp only [known, List.getD_cons_zero, List.getD_cons_succ, Nat.reduceAdd] at hk
                    simp only [List.getD_cons_zero, List.getD_cons_succ, Nat.reduceAdd, flowAt]
                    go_simp
                    exact ⟨Ext.refl _, by first | rfl | trivial⟩
                  · rintro ρ w1 hw hcst hfn hk
                    simp only [known, List.getD_cons_zero, List.getD_cons_succ, Nat.reduceAdd] at hk
                    simp only [List.getD_cons_zero, List.getD_cons_succ, Nat.reduceAdd, flowAt]
                    go_simp
                    (first | exact ⟨Ext.refl _, rfl⟩ | exact ⟨Ext.refl _, by simp [hu]⟩ | exact ⟨Ext.refl _, by simp; omega⟩)
                  · rintro ρ w1 hw hcst hfn hk
                    clear hw
                    simp only [known, List.getD_cons_zero, List.getD_cons_succ, Nat.reduceAdd] at hk
                    simp only [List.getD_cons_zero, List.getD_cons_succ, Nat.reduceAdd, flowAt]
                    go_simp
                    exact ⟨Ext.refl _, by first | rfl | trivial⟩
                  · rintro ρ w1 hw hcst hfn hk
                    clear hw
                    simp only [known, List.getD_cons_zero, List.getD_cons_succ, Nat.reduceAdd] at hk
                    simp only [List.getD_cons_zero, List.getD_cons_succ, Nat.reduceAdd, flowAt]
                    rintro vg rfl
                    refine ⟨fun hg => ?_, fun hg => ?_⟩ <;> simp at hg
                    first | exact trivial | exact rfl
                  · rintro ρ w1 hw hcst hfn hk
                    clear hw
                    simp only [known, List.getD_cons_zero, List.getD_cons_succ, Nat.reduceAdd] at hk
                    simp only [List.getD_cons_zero, List.getD_cons_succ, Nat.reduceAdd, flowAt]
                    rintro vg rfl
                    refine ⟨fun hg => ?_, fun hg => ?_⟩ <;> simp at hg
                    first | exact trivial | exact rfl
                  · rintro ρ w1 hw hcst hfn hk
                    clear hw
                    simp only [known, List.getD_cons_zero, List.getD_cons_succ, Nat.reduceAdd] at hk
                    simp only [List.getD_cons_zero, List.getD_cons_succ, Nat.reduceAdd, flowAt]
                    rintro vg rfl
                    refine ⟨fun hg => ?_, fun hg => ?_⟩ <;> simp at hg
                    first | exact trivial | exact rfl
                  · rintro ρ w1 hw hcst hfn hk
                    clear hw
                    simp only [known, List.getD_cons_zero, List.getD_cons_succ, Nat.reduceAdd] at hk
                    simp only [List.getD_cons_zero, List.getD_cons_succ, Nat.reduceAdd, flowAt]
                    rintro vg rfl
                    refine ⟨fun hg => ?_, fun hg => ?_⟩ <;> simp at hg
                    first | exact trivial | exact rfl
                  · rintro ρ w1 hw hcst hfn hk
                    clear hw
                    simp only [known, List.getD_cons_zero, List.getD_cons_succ, Nat.reduceAdd] at hk
                    simp only [List.getD_cons_zero, List.getD_cons_succ, Nat.reduceAdd, flowAt]
                    rintro vg rfl
                    refine ⟨fun hg => ?_, fun hg => ?_⟩ <;> simp at hg
                    first | exact trivial | exact rfl
                  · rintro ρ w1 hw hcst hfn hk
                    clear hw
                    simp only [known, List.getD_cons_zero, List.getD_cons_succ, Nat.reduceAdd] at hk
                    simp only [List.getD_cons_zero, List.getD_cons_succ, Nat.reduceAdd, flowAt]
                    rintro vg rfl
                    refine ⟨fun hg => ?_, fun hg => ?_⟩ <;> simp at hg
                    first | exact trivial | exact rfl
                  · rintro ρ w1 hw hcst hfn hk
                    clear hw
                    simp only [known, List.getD_cons_zero, List.getD_cons_succ, Nat.reduceAdd] at hk
                    simp only [List.getD_cons_zero, List.getD_cons_succ, Nat.reduceAdd, flowAt]
                    rintro vg rfl
                    refine ⟨fun hg => ?_, fun hg => ?_⟩ <;> simp at hg
                    first | exact trivial | exact rfl
                  · rintro ρ w1 hw hcst hfn hk
                    clear hw
                    simp only [known, List.getD_cons_zero, List.getD_cons_succ, Nat.reduceAdd] at hk
                    simp only [List.getD_cons_zero, List.getD_cons_succ, Nat.reduceAdd, flowAt]
                    rintro vg rfl
                    refine ⟨fun hg => ?_, fun hg => ?_⟩ <;> simp at hg
                    first | exact trivial | exact rfl
                  · rintro ρ w1 hw hcst hfn hk
                    clear hw
                    simp only [known, List.getD_cons_zero, List.getD_cons_succ, Nat.reduceAdd] at hk
                    simp only [List.getD_cons_zero, List.getD_cons_succ, Nat.reduceAdd, flowAt]
                    rintro vg rfl
                    refine ⟨fun hg => ?_, fun hg => ?_⟩ <;> simp at hg
                    first | exact trivial | exact rfl
                  · rintro ρ w1 hw hcst hfn hk
                    clear hw
                    simp only [known, List.getD_cons_zero, List.getD_cons_succ, Nat.reduceAdd] at hk
                    simp only [List.getD_cons_zero, List.getD_cons_succ, Nat.reduceAdd, flowAt]
                    rintro vg rfl
                    refine ⟨fun hg => ?_, fun hg => ?_⟩ <;> simp at hg
                    first | exact trivial | exact rfl
                  · rintro ρ w1 hw hcst hfn hk
                    clear hw
                    simp only [known, List.getD_cons_zero, List.getD_cons_succ, Nat.reduceAdd] at hk
                    simp only [List.getD_cons_zero, List.getD_cons_succ, Nat.reduceAdd, flowAt]
                    rintro vg rfl
                    refine ⟨fun hg => ?_, fun hg => ?_⟩ <;> simp at hg
                    first | exact trivial | exact rfl
                  · rintro ρ w1 hw hcst hfn hk
                    clear hw
                    simp only [known, List.getD_cons_zero, List.getD_cons_succ, Nat.reduceAdd] at hk
                    simp only [List.getD_cons_zero, List.getD_cons_succ, Nat.reduceAdd, flowAt]
                    rintro vg rfl
                    refine ⟨fun hg => ?_, fun hg => ?_⟩ <;> simp at hg
                    first | exact trivial | exact rfl
                  · rintro ρ w1 hw hcst hfn hk
                    clear hw
                    simp only [known, List.getD_cons_zero, List.getD_cons_succ, Nat.reduceAdd] at hk
                    simp only [List.getD_cons_zero, List.getD_cons_succ, Nat.reduceAdd, flowAt]
                    go_simp
                    exact ⟨Ext.refl _, by first | rfl | trivial⟩
                intro vs w1 hw hf
                simp only [flowFacts, Nat.reduceAdd] at hf
                obtain ⟨e0, e1, e2, e3, e4, e5, e6, e7, e8, e9, e10, e11, e12, e13, e14, e15, e16, e17, e18, e19, e20, e21, e22, e23, -⟩ := hf
                simp only [List.take_succ_cons, List.take_zero, List.drop_succ_cons, List.drop_zero, putAll, Act.put, Nat.reduceAdd, List.setIfInBounds_toArray, List.set_cons_zero, List.set_cons_succ, e0, e1, e2, e3, e4, e5, e6, e7, e8, e9, e10, e11, e12, e13, e14, e15, e16, e17, e18, e19, e20, e21, e22, e23]
                clear e0 e1 e2 e3 e4 e5 e6 e7 e8 e9 e10 e11 e12 e13 e14 e15 e16 e17 e18 e19 e20 e21 e22 e23
                have hy1 := hyy.trans ((Ext.refl _).drew.trans hw)
                have HOW1 := hid (HOW.out.ext ((Ext.refl _).drew.trans hw))
                clear hw
                go_wp2_with fail
                go_roundw
                case rel => exact ⟨j + 1, by omega, by go_num, hy1, HOW1⟩
                case measure => simp [intOf]; omega
            · obtain rfl : j = P := by omega
              obtain ⟨hu, rfl⟩ := HFP.out rfl
              go_wp2_with fail
              refine wp_region_flow_at (C := Ext) 24 [fun v _ => v = .slice (some ⟨fg, fo, none⟩) l.length fc, fun v _ => v = .int .i64 (j : Int), fun v _ => v = .pointer (some ⟨fg, q1, none⟩), fun v _ => v = .int .i64 uu, fun v _ => v = .slice (some ⟨fg, fo, none⟩) l.length fc, fun v _ => v = .int .i64 (p : Int), fun v _ => v = .pointer (some ⟨fg, q2, none⟩), fun v _ => v = .int .i64 zz, fun v _ => v = .int .i64 (zz - 1), fun v _ => v = .bool false, fun v _ => v = .bool false, fun v _ => v = .pointer (some ⟨w.heap.size, 0, none⟩), fun v _ => v = .slice (some ⟨b, o, none⟩) l.length c, fun v _ => v = .int .i64 (p : Int), fun v _ => v = .pointer (some ⟨b, r1, none⟩), fun v _ => v = .string s1, fun v _ => v = .pointer (some ⟨w.heap.size, 0, none⟩), fun v _ => v = .slice (some ⟨b, o, none⟩) l.length c, fun v _ => v = .int .i64 (j : Int), fun v _ => v = .pointer (some ⟨b, r2, none⟩), fun v _ => v = .string s2, fun v _ => v = .bool true, fun v _ => v = .bool false, fun v _ => v = .bool false]
                [[(8, none)], [(11, none)], [(44, some 0), (45, some 1)], [(46, some 2)], [(8, none)], [(9, none)], [(48, some 4), (49, some 5)], [(50, some 6)], [(51, some 7)], [(47, some 3), (52, some 8)], [(53, some 9)], [(3, none)], [(55, some 11)], [(9, none)], [(56, some 12), (57, some 13)], [(58, some 14)], [(3, none)], [(60, some 16)], [(11, none)], [(61, some 17), (62, some 18)], [(63, some 19)], [(59, some 15), (64, some 20)], [(65, some 21)], [(54, some 10), (66, some 22)]] (by kernel_rfl) (by kernel_rfl) Ext.refl (fun _ _ _ => Ext.trans) ?_ ?_ ?_
              · intro F hF
                simp only [List.mem_cons, List.not_mem_nil, or_false] at hF
                rcases hF with rfl | rfl | rfl | rfl | rfl | rfl | rfl | rfl | rfl | rfl | rfl | rfl | rfl | rfl | rfl | rfl | rfl | rfl | rfl | rfl | rfl | rfl | rfl | rfl <;> exact fun _ _ _ h _ => h
              · refine ⟨?_, ?_, ?_, ?_, ?_, ?_, ?_, ?_, ?_, ?_, ?_, ?_, ?_, ?_, ?_, ?_, ?_, ?_, ?_, ?_, ?_, ?_, ?_, ?_, trivial⟩
                · rintro ρ w1 hw hcst hfn hk
                  clear hw
                  simp only [known, List.getD_cons_zero, List.getD_cons_succ, Nat.reduceAdd] at hk
                  simp only [List.getD_cons_zero, List.getD_cons_succ, Nat.reduceAdd, flowAt]
                  go_simp
                  exact ⟨Ext.refl _, by first | rfl | trivial⟩
                · rintro ρ w1 hw hcst hfn hk
                  clear hw
                  simp only [known, List.getD_cons_zero, List.getD_cons_succ, Nat.reduceAdd] at hk
                  simp only [List.getD_cons_zero, List.getD_cons_succ, Nat.reduceAdd, flowAt]
                  go_simp
                  exact ⟨Ext.refl _, by first | rfl | trivial⟩
                · rintro ρ w1 hw hcst hfn hk
                  simp only [known, List.getD_cons_zero, List.getD_cons_succ, Nat.reduceAdd] at hk
                  simp only [List.getD_cons_zero, List.getD_cons_succ, Nat.reduceAdd, flowAt]
                  go_simp
                  exact ⟨Ext.refl _, by first | rfl | rw [hq1]⟩
                · rintro ρ w1 hw hcst hfn hk
                  have c0 := hw.cell (b := fg) (o := q1) (v := .int .i64 uu) (by first | (simp [*]; done) | (simp [*, go_sem]; done) | go_cell)
                  clear hw
                  simp only [known, List.getD_cons_zero, List.getD_cons_succ, Nat.reduceAdd] at hk
                  simp only [List.getD_cons_zero, List.getD_cons_succ, Nat.reduceAdd, flowAt]
                  go_simp
                  exact ⟨Ext.refl _, by first | rfl | trivial⟩
                · rintro ρ w1 hw hcst hfn hk
                  clear hw
                  simp only [known, List.getD_cons_zero, List.getD_cons_succ, Nat.reduceAdd] at hk
                  simp only [List.getD_cons_zero, List.getD_cons_succ, Nat.reduceAdd, flowAt]
                  go_simp
                  exact ⟨Ext.refl _, by first | rfl | trivial⟩
                · rintro ρ w1 hw hcst hfn hk
                  clear hw
                  simp only [known, List.getD_cons_zero, List.getD_cons_succ, Nat.reduceAdd] at hk
                  simp only [List.getD_cons_zero, List.getD_cons_succ, Nat.reduceAdd, flowAt]
                  go_simp
                  exact ⟨Ext.refl _, by first | rfl | trivial⟩
                · rintro ρ w1 hw hcst hfn hk
                  simp only [known, List.getD_cons_zero, List.getD_cons_succ, Nat.reduceAdd] at hk
                  simp only [List.getD_cons_zero, List.getD_cons_succ, Nat.reduceAdd, flowAt]
                  go_simp
                  exact ⟨Ext.refl _, by first | rfl | rw [hq2]⟩
                · rintro ρ w1 hw hcst hfn hk
                  have c0 := hw.cell (b := fg) (o := q2) (v := .int .i64 zz) (by first | (simp [*]; done) | (simp [*, go_sem]; done) | go_cell)
                  clear hw
                  simp only [known, List.getD_cons_zero, List.getD_cons_succ, Nat.reduceAdd] at hk
                  simp only [List.getD_cons_zero, List.getD_cons_succ, Nat.reduceAdd, flowAt]
                  go_simp
                  exact ⟨Ext.refl _, by first | rfl | trivial⟩
                · rintro ρ w1 hw hcst hfn hk
                  clear hw
                  simp only [known, List.getD_cons_zero, List.getD_cons_succ, Nat.reduceAdd] at hk
                  simp only [List.getD_cons_zero, List.getD_cons_succ, Nat.reduceAdd, flowAt]
                  go_simp
                  exact ⟨Ext.refl _, by first | rfl | trivial⟩
                · rintro ρ w1 hw hcst hfn hk
                  simp only [known, List.getD_cons_zero, List.getD_cons_succ, Nat.reduceAdd] at hk
                  simp only [List.getD_cons_zero, List.getD_cons_succ, Nat.reduceAdd, flowAt]
                  go_simp
                  (first | exact ⟨Ext.refl _, rfl⟩ | exact ⟨Ext.refl _, by simp [hu]⟩ | exact ⟨Ext.refl _, by simp; omega⟩)
                · rintro ρ w1 hw hcst hfn hk
                  clear hw
                  simp only [known, List.getD_cons_zero, List.getD_cons_succ, Nat.reduceAdd] at hk
                  simp only [List.getD_cons_zero, List.getD_cons_succ, Nat.reduceAdd, flowAt]
                  go_simp
                  exact ⟨Ext.refl _, by first | rfl | trivial⟩
                · rintro ρ w1 hw hcst hfn hk
                  clear hw
                  simp only [known, List.getD_cons_zero, List.getD_cons_succ, Nat.reduceAdd] at hk
                  simp only [List.getD_cons_zero, List.getD_cons_succ, Nat.reduceAdd, flowAt]
                  rintro vg rfl
                  refine ⟨fun hg => ?_, fun hg => ?_⟩ <;> simp at hg
                  go_simp
                  exact ⟨Ext.refl _, by first | rfl | trivial⟩
                · rintro ρ w1 hw hcst hfn hk
                  have c0 := hw.cell (b := w.heap.size) (o := 0) (v := .slice (some ⟨b, o, none⟩) l.length c) (by first | (simp [*]; done) | (simp [*, go_sem]; done) | go_cell)
                  clear hw
                  simp only [known, List.getD_cons_zero, List.getD_cons_succ, Nat.reduceAdd] at hk
                  simp only [List.getD_cons_zero, List.getD_cons_succ, Nat.reduceAdd, flowAt]
                  rintro vg rfl
                  refine ⟨fun hg => ?_, fun hg => ?_⟩ <;> simp at hg
                  go_simp
                  exact ⟨Ext.refl _, by first | rfl | trivial⟩
                · rintro ρ w1 hw hcst hfn hk
                  clear hw
                  simp only [known, List.getD_cons_zero, List.getD_cons_succ, Nat.reduceAdd] at hk
                  simp only [List.getD_cons_zero, List.getD_cons_succ, Nat.reduceAdd, flowAt]
                  rintro vg rfl
                  refine ⟨fun hg => ?_, fun hg => ?_⟩ <;> simp at hg
                  go_simp
                  exact ⟨Ext.refl _, by first | rfl | trivial⟩
                · rintro ρ w1 hw hcst hfn hk
                  simp only [known, List.getD_cons_zero, List.getD_cons_succ, Nat.reduceAdd] at hk
                  simp only [List.getD_cons_zero, List.getD_cons_succ, Nat.reduceAdd, flowAt]
                  rintro vg rfl
                  refine ⟨fun hg => ?_, fun hg => ?_⟩ <;> simp at hg
                  go_simp
                  exact ⟨Ext.refl _, by first | rfl | rw [hr1]⟩
                · rintro ρ w1 hw hcst hfn hk
                  have c0 := hw.cell (b := b) (o := r1) (v := .string s1) (by first | (simp [*]; done) | (simp [*, go_sem]; done) | go_cell)
                  clear hw
                  simp only [known, List.getD_cons_zero, List.getD_cons_succ, Nat.reduceAdd] at hk
                  simp only [List.getD_cons_zero, List.getD_cons_succ, Nat.reduceAdd, flowAt]
                  rintro vg rfl
                  refine ⟨fun hg => ?_, fun hg => ?_⟩ <;> simp at hg
                  go_simp
                  exact ⟨Ext.refl _, by first | rfl | trivial⟩
                · rintro ρ w1 hw hcst hfn hk
                  clear hw
                  simp only [known, List.getD_cons_zero, List.getD_cons_succ, Nat.reduceAdd] at hk
                  simp only [List.getD_cons_zero, List.getD_cons_succ, Nat.reduceAdd, flowAt]
                  rintro vg rfl
                  refine ⟨fun hg => ?_, fun hg => ?_⟩ <;> simp at hg
                  go_simp
                  exact ⟨Ext.refl _, by first | rfl | trivial⟩
                · rintro ρ w1 hw hcst hfn hk
                  have c0 := hw.cell (b := w.heap.size) (o := 0) (v := .slice (some ⟨b, o, none⟩) l.length c) (by first | (simp [*]; done) | (simp [*, go_sem]; done) | go_cell)
                  clear hw
                  simp only [known, List.getD_cons_zero, List.getD_cons_succ, Nat.reduceAdd] at hk
                  simp only [List.getD_cons_zero, List.getD_cons_succ, Nat.reduceAdd, flowAt]
                  rintro vg rfl
                  refine ⟨fun hg => ?_, fun hg => ?_⟩ <;> simp at hg
                  go_simp
                  exact ⟨Ext.refl _, by first | rfl | trivial⟩
                · rintro ρ w1 hw hcst hfn hk
                  clear hw
                  simp only [known, List.getD_cons_zero, List.getD_cons_succ, Nat.reduceAdd] at hk
                  simp only [List.getD_cons_zero, List.getD_cons_succ, Nat.reduceAdd, flowAt]
                  rintro vg rfl
                  refine ⟨fun hg => ?_, fun hg => ?_⟩ <;> simp at hg
                  go_simp
                  exact ⟨Ext.refl _, by first | rfl | trivial⟩
                · rintro ρ w1 hw hcst hfn hk
                  simp only [known, List.getD_cons_zero, List.getD_cons_succ, Nat.reduceAdd] at hk
                  simp only [List.getD_cons_zero, List.getD_cons_succ, Nat.reduceAdd, flowAt]
                  rintro vg rfl
                  refine ⟨fun hg => ?_, fun hg => ?_⟩ <;> simp at hg
                  go_simp
                  exact ⟨Ext.refl _, by first | rfl | rw [hr2]⟩
                · rintro ρ w1 hw hcst hfn hk
                  have c0 := hw.cell (b := b) (o := r2) (v := .string s2) (by first | (simp [*]; done) | (simp [*, go_sem]; done) | go_cell)
                  clear hw
                  simp only [known, List.getD_cons_zero, List.getD_cons_succ, Nat.reduceAdd] at hk
                  simp only [List.getD_cons_zero, List.getD_cons_succ, Nat.reduceAdd, flowAt]
                  rintro vg rfl
                  refine ⟨fun hg => ?_, fun hg => ?_⟩ <;> simp at hg
                  go_simp
                  exact ⟨Ext.refl _, by first | rfl | trivial⟩
                · rintro ρ w1 hw hcst hfn hk
                  simp only [known, List.getD_cons_zero, List.getD_cons_succ, Nat.reduceAdd] at hk
                  simp only [List.getD_cons_zero, List.getD_cons_succ, Nat.reduceAdd, flowAt]
                  rintro vg rfl
                  refine ⟨fun hg => ?_, fun hg => ?_⟩ <;> simp at hg
                  go_simp
                  exact flow_dr (HNk.out _)
                · rintro ρ w1 hw hcst hfn hk
                  clear hw
                  simp only [known, List.getD_cons_zero, List.getD_cons_succ, Nat.reduceAdd] at hk
                  simp only [List.getD_cons_zero, List.getD_cons_succ, Nat.reduceAdd, flowAt]
                  rintro vg rfl
                  refine ⟨fun hg => ?_, fun hg => ?_⟩ <;> simp at hg
                  go_simp
                  exact ⟨Ext.refl _, by first | rfl | trivial⟩
                · rintro ρ w1 hw hcst hfn hk
                  clear hw
                  simp only [known, List.getD_cons_zero, List.getD_cons_succ, Nat.reduceAdd] at hk
                  simp only [List.getD_cons_zero, List.getD_cons_succ, Nat.reduceAdd, flowAt]
                  go_simp
                  exact ⟨Ext.refl _, by first | rfl | trivial⟩
              intro vs w1 hw hf
              simp only [flowFacts, Nat.reduceAdd] at hf
              obtain ⟨e0, e1, e2, e3, e4, e5, e6, e7, e8, e9, e10, e11, e12, e13, e14, e15, e16, e17, e18, e19, e20, e21, e22, e23, -⟩ := hf
              simp only [List.take_succ_cons, List.take_zero, List.drop_succ_cons, List.drop_zero, putAll, Act.put, Nat.reduceAdd, List.setIfInBounds_toArray, List.set_cons_zero, List.set_cons_succ, e0, e1, e2, e3, e4, e5, e6, e7, e8, e9, e10, e11, e12, e13, e14, e15, e16, e17, e18, e19, e20, e21, e22, e23]
              clear e0 e1 e2 e3 e4 e5 e6 e7 e8 e9 e10 e11 e12 e13 e14 e15 e16 e17 e18 e19 e20 e21 e22 e23
              have hy1 := hyy.trans ((Ext.refl _).drew.trans hw)
              have HOW1 := hid (HOW.out.ext ((Ext.refl _).drew.trans hw))
              replace hc2 := ((Ext.refl _).drew.trans hw).cell hc2
              clear hw
              have hown := HOW1.out
              have hsz2 := hy1.size
              have HLS : Hid (strsV (ladW l x y (t + 1)) ++ [.string s2] = strsV (ladW l x y (t + 1 + 1))) := hid (by rw [HWS.out, HP1.out, HS2.out, strsV_append]; rfl)
              have HMS : Hid ((far l ib (intOf (.int .i64 (j : Int))).toNat).toNat < (far l ib (intOf (.int .i64 (p : Int))).toNat).toNat) := hid (by simp only [intOf, Int.toNat_natCast]; rw [HG2.out, HPF.out]; omega)
              have hb2 := HB0.out _ hy1
              go_wp2_with (at_builtin; refine wpList_push rfl _ _ 22 rfl El_str rfl [_] rfl rfl (by simp [Value.oneCell']) hown (by omega) (by unfold maxLen; omega) (by omega) ?_; intro a2 c2 w8 hown2 hbl2; have HO := hid hown2; clear hown2 hown)
              go_roundw
              case rel => exact ⟨t + 1, c2, a2, by omega, by rw [HP1.out], by first | rfl | trivial, by rw [← HLS.out]; exact HO.out, hy1.thenBelow hbl2 (Nat.le_refl _)⟩
              case measure => exact HMS.out
        · obtain rfl : t = E := by omega
          rw [hpf, Nat.sub_self] at hcp
          go_wp2_with fail
          go_returns
          exact ⟨a', cap, by rw [HX1.out, HC1.out, HLNG.out]; rfl, by rw [HX1.out]; exact HOW.out.ownR.mono (by have := HE5.out.size; omega), HE5.out.trans hyy⟩
end Go.Proofs.Ytaigabenlccdaaa
