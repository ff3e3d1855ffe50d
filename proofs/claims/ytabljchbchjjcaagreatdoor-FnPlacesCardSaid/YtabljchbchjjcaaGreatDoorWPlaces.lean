/- FnPlaces: whatever it is given, it says yes. No condition. -/
import Derived.Test.YtabljchbchjjcaaGreatDoorCh09j
import Derived.Test.YtabljchbchjjcaaGreatDoorMg23
import Derived.Test.YtabljchbchjjcaaGreatDoorMg24
import Derived.Test.YtabljchbchjjcaaGreatDoorMg25
import Derived.Test.YtabljchbchjjcaaGreatDoorMg26
namespace Go.Proofs.YtabljchbchjjcaaGreatDoor
set_option linter.unusedVariables false
set_option linter.unusedSimpArgs false
open Go Go.RowKit Go.ChangeShapes Go.WideShapes Go.ChangeAt
open Go.ChangeMaps (open_string shut_string)
theorem good_of {w : World} {aD : Option Addr} {LD : List NdP} {l : List ByteArray} (hR : DgRd w aD LD) (hT : TabF w) (h : lexOk l = true) (h6 : l.length ≤ 6) (hM : ndsOf LD = (bothR l).1) : GoodD w aD LD l := by
  obtain ⟨N, O, r, hA, hD⟩ := auto_ok h h6
  refine ⟨hR, hT, h, h6, N, O, r, hA, ?_⟩
  rw [hM]
  unfold bothR
  rw [if_pos h, hD]
theorem bothR_zero {l : List ByteArray} (h : lexOk l = true) (h6 : l.length ≤ 6) : (bothR l).2 = 0 := by
  obtain ⟨N, O, r, hA, hD⟩ := auto_ok h h6
  unfold bothR
  rw [if_pos h, hD]
set_option maxRecDepth 100000 in
set_option maxHeartbeats 16000000 in
theorem walk_FnPlaces (a : Option Addr) (cc : Nat) (l : List UInt8) (b : Option Addr) (dd : Nat) (m : List UInt8) (w : World) (hr : Rd w a (bytesV l)) (hl : l.length ≤ maxLen) (hr2 : Rd w b (bytesV m)) (hl2 : m.length ≤ maxLen) (hT : TabF w) :
    Calls Tryz.prog 3 #[.slice a l.length cc, .slice b m.length dd] w (Ret (.bool true) w) := by
  have HR := hid hr
  have HR2 : Hid (∀ w', Ext w w' → Rd w' b (bytesV m)) := hid (fun w' k => hr2.ext k)
  have HT : Hid (∀ w', Ext w w' → TabF w') := hid (fun w' k => hT.ext k)
  have HF := hid (a2Long_any a b cc dd l m w hl hl2)
  clear hr hT hr2
  by_cases hbig : (decide (3000 < l.length) || decide (3000 < m.length)) = true
  · rw [hbig] at HF
    clear hbig
    go_enter Tryz.func3, Tryz.ntmps3
    go_wp2_with fail
    refine HF.out.mono ?_
    rintro e w' ⟨rfl, rfl⟩
    go_wp2_with fail
    go_returns
    exact ⟨rfl, Ext.refl _⟩
  rw [show (decide (3000 < l.length) || decide (3000 < m.length)) = false by simpa using hbig] at HF
  have hb2 : l.length ≤ 3000 ∧ m.length ≤ 3000 := by simp at hbig; omega
  have HD := hid (A2Both_any a cc l w HR.out (by omega))
  have HW := hid (fun w' (x : Ext w w') => A2Word_any b dd m w' (HR2.out _ x) (by omega))
  have HAT := hid (fun (i n : Nat) w' (x : Ext w w') hi hn => a2At_any b dd m i n w' (HR2.out _ x) hl2 hi hn)
  clear hbig HR HR2 hb2
  go_enter Tryz.func3, Tryz.ntmps3
  go_wp2_with fail
  refine HF.out.mono ?_
  rintro e w' ⟨rfl, rfl⟩
  go_wp2_with fail
  refine HD.out.mono ?_
  rintro e z0 ⟨a1, c1, L, rfl, hrd, hn, hri, hso, hx⟩
  have h6 : L.length ≤ 6 := by omega
  have hw : ∀ s ∈ L, longOk s = true := fun s hs => List.all_eq_true.1 some_long s (hso s hs)
  have hok : lexOk L = true := drawn_ok (by omega) hri hso
  have hsz : ∀ s ∈ L, s.size ≤ 1048576 := fun s hs => by have := (longOk_parts (hw s hs)).2.1; omega
  have hsz12 : ∀ s ∈ L, s.size ≤ 12 := fun s hs => (longOk_parts (hw s hs)).2.1
  have HSZ := hid hsz12
  have HOK := hid hok
  have HBB := hid (fun w' (h : Rd w' a1 (strsV L)) => sBuildBoth_any a1 c1 L w' h (by omega) hsz)
  have HHW := hid (fun s w' (h : Rd w' a1 (strsV L)) => sHasWord_any a1 c1 L s w' h (by omega) hsz)
  have HGD := hid (fun w' aD LD (h1 : DgRd w' aD LD) (h2 : TabF w') (h3 : ndsOf LD = (bothR L).1) => good_of h1 h2 hok h6 h3)
  have HBZ := hid (bothR_zero hok h6)
  have HFR := hid (fun s w' aD cD LD (h : GoodD w' aD LD L) h1 h2 => FrontLetters_good aD cD LD L s w' h h1 h2)
  have HBK := hid (fun s w' aD cD LD (h : GoodD w' aD LD L) h1 h2 => BackLetters_good aD cD LD L s w' h h1 h2)
  have HMD := hid (fun p q w' aD cD LD (h : GoodD w' aD LD L) h1 h2 h3 h4 => MiddleLetters_good aD cD LD L p q w' h h1 h2 h3 h4)
  have HPL := hid (fun core w' aD cD LD (h : GoodD w' aD LD L) h1 h2 => PlacesOf_good aD cD LD L core w' h h1 h2)
  have HHM := hid (fun x => hasL_mem (lexOk_inc hok) x)
  have HE := hid hx
  have hrd' := hid hrd
  clear hrd hn hri hso hx HF HD hw hok hsz hsz12
  have hx := (Ext.refl z0).alloc (.cells #[.slice a1 L.length c1] 26)
  have p5 : (z0.alloc (.cells #[.slice a1 L.length c1] 26)).cell? ⟨z0.heap.size, 0, none⟩ = some (.slice a1 L.length c1) := by simp
  have hE := HE.out.trans hx
  have RL := hid (hrd'.out.ext hx)
  clear hx hrd' HE
  go_wp2_with fail
  refine (HBB.out _ RL.out).mono ?_
  rintro e z1 ⟨aD, cD, LD, hnd, rfl, hDg, hx⟩
  rw [HBZ.out]
  replace p5 := hx.cell p5
  replace hE := hE.trans hx
  replace RL := hid (RL.out.ext hx)
  have GD := hid (HGD.out _ aD LD hDg (HT.out _ hE) hnd)
  clear hx hDg hnd HBB HGD HBZ HT
  have hl5 := World.block_lt_of_cell? _ _ p5
  obtain ⟨G5, hG5⟩ : ∃ G, z0.heap.size = G := ⟨_, rfl⟩
  rw [hG5] at p5 hl5
  have hx := (Ext.refl z1).alloc (.cells #[.slice aD LD.length cD] 30)
  have p6 : (z1.alloc (.cells #[.slice aD LD.length cD] 30)).cell? ⟨z1.heap.size, 0, none⟩ = some (.slice aD LD.length cD) := by simp
  replace p5 := hx.cell p5
  replace hE := hE.trans hx
  replace RL := hid (RL.out.ext hx)
  replace GD := hid (GD.out.ext hx)
  clear hx
  go_wp2_with fail
  refine (HW.out _ hE).mono ?_
  rintro e z2 ⟨y, hy, rfl, hx⟩
  have hyl : longOk y = true := List.all_eq_true.1 some_long y hy
  have HYL := hid hyl
  obtain ⟨hy2, hy12, -⟩ := longOk_parts hyl
  replace p5 := hx.cell p5
  replace p6 := hx.cell p6
  replace hE := hE.trans hx
  replace RL := hid (RL.out.ext hx)
  replace GD := hid (GD.out.ext hx)
  obtain ⟨G6, hG6⟩ : ∃ G, z1.heap.size = G := ⟨_, rfl⟩
  rw [hG6] at p6
  clear hx HW hy hyl hl5
  go_wp2_with fail
  clear hG5 hG6
  refine (HAT.out 0 y.size _ hE (by omega) ⟨by omega, by omega⟩).mono ?_
  rintro e z3 ⟨k0, hk0, rfl, rfl⟩
  obtain ⟨n, hn⟩ : ∃ n : Nat, k0 + 1 = n := ⟨_, rfl⟩
  have q1 : IntKind.i64.wrap (1 + (k0 : Int)) = (n : Int) := by rw [IntWalk.i64_in _ (by omega)]; omega
  have hn1 : 1 ≤ n := by omega
  have hny : (n : Int) ≤ (y.size : Int) := by omega
  have hny2 : n ≤ y.size := by omega
  have HC := hid (core_ok HYL.out hn1 hny2)
  have hcs : (y.extract 0 n).size = n := by rw [ByteArray.size_extract]; omega
  clear hn hk0
  go_wp2_with fail
  obtain ⟨core, hcore⟩ : ∃ c, y.extract 0 n = c := ⟨_, rfl⟩
  rw [hcore] at HC hcs
  simp only [hcore]
  clear hcore
  refine (HPL.out core _ aD cD LD GD.out HC.out ⟨by omega, by omega⟩).mono ?_
  rintro e z4 ⟨a4, c4, P, rfl, hPl, hPo, hPr, hx⟩
  replace p5 := hx.cell p5
  replace p6 := hx.cell p6
  replace hE := hE.trans hx
  replace RL := hid (RL.out.ext hx)
  replace GD := hid (GD.out.ext hx)
  have HPO : Hid (∀ k, k < P.length → ∃ i : Nat, (plcAt P k).2 = i ∧ (plcAt P k).1 ∈ L ∧ i + core.size ≤ (plcAt P k).1.size ∧ (plcAt P k).1.extract i (i + core.size) = core) := hid (fun k hk => hPo _ (plcAt_mem hk))
  have hc12 : core.size ≤ 12 := by omega
  have HK0 := hid (show Ext w z4 ∧ z4.cell? ⟨G5, 0, none⟩ = some (.slice a1 L.length c1) ∧ z4.cell? ⟨G6, 0, none⟩ = some (.slice aD LD.length cD) ∧ Rd z4 a1 (strsV L) ∧ GoodD z4 aD LD L ∧ Rd z4 a4 (plcV P) from ⟨hE, p5, p6, RL.out, GD.out, hPr⟩)
  clear hx hPo hPr HPL HC hcs hE p5 p6 RL GD q1
  go_wp2_with fail
  go_loopw [12] (fun i wr => ∃ k : Nat, k ≤ P.length ∧ i = .int .i64 (k : Int) ∧ Hid (Ext w wr ∧ wr.cell? ⟨G5, 0, none⟩ = some (.slice a1 L.length c1) ∧ wr.cell? ⟨G6, 0, none⟩ = some (.slice aD LD.length cD) ∧ Rd wr a1 (strsV L) ∧ GoodD wr aD LD L ∧ Rd wr a4 (plcV P))) (fun i _ => P.length - (intOf i).toNat)
  case atStart => exact ⟨0, by omega, rfl, HK0⟩
  case round =>
    clear HK0
    obtain ⟨k, hk, rfl, HK⟩ := hrel
    obtain ⟨hE, p5, p6, hrl, hgd, hrp⟩ := HK.out
    have RL := hid hrl
    have GD := hid hgd
    have RP := hid hrp
    clear HK hrl hgd
    by_cases hlt : k < P.length
    · obtain ⟨b1, o1, rfl, hc⟩ := hrp.plc (by omega)
      obtain ⟨x0, x1⟩ := hc k hlt
      obtain ⟨i1, e2, hmem, hfit, hext⟩ := HPO.out k hlt
      obtain ⟨s, hs⟩ : ∃ s, (plcAt P k).1 = s := ⟨_, rfl⟩
      rw [hs] at x0 hmem hfit hext
      rw [e2] at x1
      rw [← Nat.add_assoc] at x1
      obtain ⟨q, hq⟩ : ∃ q, o1 + k * 2 = q := ⟨_, rfl⟩
      rw [hq] at x0 x1
      have hs12 := HSZ.out s hmem
      have HHS := hid (fun w' h => HHW.out s w' h)
      rw [show hasWordB L s = true by unfold hasWordB; rw [HOK.out, (HHM.out s).2 hmem]; rfl] at HHS
      obtain ⟨e1, he1⟩ : ∃ e1 : Nat, i1 + core.size = e1 := ⟨_, rfl⟩
      rw [he1] at hext hfit
      have f1 : ¬ (i1 : Int) < 0 := by omega
      obtain ⟨d1, hd1⟩ : ∃ d1 : Nat, s.size - core.size = d1 := ⟨_, rfl⟩
      have f2 : IntKind.i64.wrap ((s.size : Int) - core.size) = (d1 : Int) := by rw [IntWalk.i64_in _ (by omega)]; omega
      have f3 : ¬ (d1 : Int) < i1 := by omega
      have f4 : IntKind.i64.wrap ((i1 : Int) + core.size) = (e1 : Int) := by rw [IntWalk.i64_in _ (by omega)]; omega
      have f5 : (e1 : Int) ≤ (s.size : Int) := by omega
      have f6 : (i1 : Int) ≤ (e1 : Int) := by omega
      have hne : ((s.extract i1 e1).toList == core.toList) = true := by rw [hext]; simp
      have hne2 : (!(s.extract i1 e1).toList == core.toList) = false := by rw [hne]; rfl
      have f7 : ¬ d1 < i1 := by omega
      have f8 : ((i1 : Int) < 0) = False := by simp
      have hkl : (k : Int) < (P.length : Int) := by omega
      have hx := (Ext.refl wr).alloc (.cells #[.string s, .int .i64 (i1 : Int)] 39)
      have y0 : (wr.alloc (.cells #[.string s, .int .i64 (i1 : Int)] 39)).cell? ⟨wr.heap.size, 0, none⟩ = some (.string s) := by simp
      have y1 : (wr.alloc (.cells #[.string s, .int .i64 (i1 : Int)] 39)).cell? ⟨wr.heap.size, 1, none⟩ = some (.int .i64 (i1 : Int)) := by simp
      clear hc hs e2 hmem hfit hext he1 hd1 hrp
      replace p5 := hx.cell p5
      replace p6 := hx.cell p6
      replace hE := hE.trans hx
      replace RL := hid (RL.out.ext hx)
      replace GD := hid (GD.out.ext hx)
      replace RP := hid (RP.out.ext hx)
      clear hx
      go_wp2_with fail
      refine (HHS.out _ RL.out).mono ?_
      rintro e w3 ⟨rfl, hx⟩
      replace p5 := hx.cell p5
      replace p6 := hx.cell p6
      replace hE := hE.trans hx
      replace RL := hid (RL.out.ext hx)
      replace GD := hid (GD.out.ext hx)
      replace RP := hid (RP.out.ext hx)
      replace y0 := hx.cell y0
      replace y1 := hx.cell y1
      clear hx HHS x0 x1
      go_wp2_with fail
      go_roundw
      case rel => exact ⟨k + 1, by omega, by go_num, hid ⟨hE, p5, p6, RL.out, GD.out, RP.out⟩⟩
      case measure => first | (simp [intOf]; done) | (simp [intOf]; omega)
    · clear hrp RP HPO HSZ
      obtain ⟨m0, hm0⟩ : ∃ m0, m0 + 1 = y.size := ⟨y.size - 1, by omega⟩
      have q2 : IntKind.i64.wrap ((y.size : Int) - 1) = (m0 : Int) := by rw [IntWalk.i64_in _ (by omega)]; omega
      have hm1 : (m0 : Int) ≤ (y.size : Int) := by omega
      have hm2 : (m0 : Int) < (y.size : Int) := by omega
      have hm3 : m0 < y.size := by omega
      have hy0 : (0 : Int) < (y.size : Int) := by omega
      have hy1 : (1 : Int) ≤ (y.size : Int) := by omega
      have hy3 : 0 < y.size := by omega
      obtain ⟨H, hH⟩ : ∃ H, hasL L y = H := ⟨_, rfl⟩
      have HWY := hid (fun w' h => HHW.out y w' h)
      rw [show hasWordB L y = H by unfold hasWordB; rw [HOK.out, hH]; rfl] at HWY
      obtain ⟨S1, hS1⟩ : ∃ S, y.extract 1 y.size = S := ⟨_, rfl⟩
      have g1 : wordOk S1 = true := by
        have := gap_ok HYL.out (k := 0) hy3
        rw [ext_zero, nob_f] at this
        rw [← hS1]
        exact this
      have t1 : S1.size ≤ 12 := by rw [← hS1, ByteArray.size_extract]; omega
      have HC1 := hid (fun w' h => HFR.out S1 w' aD cD LD h g1 (by omega))
      have i1 := gap_in L HYL.out (k := 0) hy3
      rw [ext_zero, hH] at i1
      change inC (hookS L ⟨#[]⟩ (y.extract 1 y.size)) _ = _ at i1
      rw [hS1] at i1
      have r1 := hookS_sz L ⟨#[]⟩ S1
      obtain ⟨F1, hF1⟩ : ∃ F, hookS L ⟨#[]⟩ S1 = F := ⟨_, rfl⟩
      rw [hF1] at i1 HC1 r1
      obtain ⟨S2, hS2⟩ : ∃ S, y.extract 0 m0 = S := ⟨_, rfl⟩
      have g2 : wordOk S2 = true := by
        have := gap_ok HYL.out (k := m0) hm3
        rw [hm0, ext_nil y (Nat.le_refl _), nob_b] at this
        rw [← hS2]
        exact this
      have t2 : S2.size ≤ 12 := by rw [← hS2, ByteArray.size_extract]; omega
      have HC2 := hid (fun w' h => HBK.out S2 w' aD cD LD h g2 (by omega))
      have i2 := gap_in L HYL.out (k := m0) hm3
      rw [hm0, ext_nil y (Nat.le_refl _), hH, hS2] at i2
      have r2 := hookS_sz L S2 ⟨#[]⟩
      obtain ⟨F2, hF2⟩ : ∃ F, hookS L S2 ⟨#[]⟩ = F := ⟨_, rfl⟩
      rw [hF2] at i2 HC2 r2
      have HL1 := hid (fun w' => a2Letter_any F1 (bAt y 0) w' (by omega))
      rw [i1, ← bAt_eq y 0 hy3] at HL1
      have HL2 := hid (fun w' => a2Letter_any F2 (bAt y m0) w' (by omega))
      rw [i2, ← bAt_eq y m0 hm3] at HL2
      have HGI : Hid (∀ k, k < y.size → inC (hookS L (y.extract 0 k) (y.extract (k + 1) y.size)) (bAt y k) = H) := hid (fun k hk => by rw [← hH]; exact gap_in L HYL.out hk)
      have HGO := hid (fun k hk => gap_ok HYL.out (k := k) hk)
      have HS1 := hid hS1
      have HS2 := hid hS2
      clear hm0 hH hS1 hS2 hF1 hF2 g1 g2 i1 i2 t1 t2 r1 r2 HFR HBK HHW HHM HYL HOK
      go_wp2_with fail
      refine wp_region_flow_at (C := Ext) 9 [fun v _ => v = .agg #[.slice aD LD.length cD], fun v _ => v = .string y, fun v _ => v = .string S1, fun v _ => v = .tuple #[.string F1, .int .i64 0], fun v _ => v = .tuple #[.string F1, .int .i64 0], fun v _ => v = .string F1, fun v _ => v = .int .i64 0, fun v _ => v = .string F1, fun v _ => v = .int .i64 0]
        [[(6, none)], [(8, none)], [(96, some 1)], [(95, some 0), (97, some 2)], [(98, some 3)], [(94, some 4)], [(94, some 4)], [(99, some 5)], [(100, some 6)]] (by kernel_rfl) (by kernel_rfl) Ext.refl (fun _ _ _ => Ext.trans) ?_ ?_ ?_
      · intro F hF
        simp only [List.mem_cons, List.not_mem_nil, or_false] at hF
        rcases hF with rfl | rfl | rfl | rfl | rfl | rfl | rfl | rfl | rfl <;> exact fun _ _ _ h _ => h
      · refine ⟨?_, ?_, ?_, ?_, ?_, ?_, ?_, ?_, ?_, trivial⟩
        · rintro ρ w1 hw hcst hfn hk
          have c0 := hw.cell (b := G6) (o := 0) (v := .slice aD LD.length cD) (by first | (simp [*]; done) | (simp [*, go_sem]; done) | go_cell)
          clear hw
          simp only [known, List.getD_cons_zero, List.getD_cons_succ, Nat.reduceAdd] at hk
          simp only [List.getD_cons_zero, List.getD_cons_succ, Nat.reduceAdd, flowAt]
          go_simp
          exact ⟨Ext.refl _, by first | rfl | trivial⟩
        · rintro ρ w1 hw hcst hfn hk
          clear hw
          simp only [known, List.getD_cons_zero, List.getD_cons_succ, Nat.reduceAdd] at hk
          simp only [List.getD_cons_zero, List.getD_cons_succ, Nat.reduceAdd, flowAt]
          go_simp
          exact ⟨Ext.refl _, by first | rfl | trivial⟩
        · rintro ρ w1 hw hcst hfn hk
          simp only [known, List.getD_cons_zero, List.getD_cons_succ, Nat.reduceAdd] at hk
          simp only [List.getD_cons_zero, List.getD_cons_succ, Nat.reduceAdd, flowAt]
          go_simp
          exact ⟨Ext.refl _, by rw [HS1.out]⟩
        · rintro ρ w1 hw hcst hfn hk
          simp only [known, List.getD_cons_zero, List.getD_cons_succ, Nat.reduceAdd] at hk
          simp only [List.getD_cons_zero, List.getD_cons_succ, Nat.reduceAdd, flowAt]
          go_simp
          exact flow_ret (HC1.out _ (GD.out.ext ((Ext.refl _).drew.trans hw)))
        · rintro ρ w1 hw hcst hfn hk
          clear hw
          simp only [known, List.getD_cons_zero, List.getD_cons_succ, Nat.reduceAdd] at hk
          simp only [List.getD_cons_zero, List.getD_cons_succ, Nat.reduceAdd, flowAt]
          go_simp
          exact ⟨Ext.refl _, by first | rfl | trivial⟩
        · rintro ρ w1 hw hcst hfn hk
          clear hw
          simp only [known, List.getD_cons_zero, List.getD_cons_succ, Nat.reduceAdd] at hk
          simp only [List.getD_cons_zero, List.getD_cons_succ, Nat.reduceAdd, flowAt]
          go_simp
          exact ⟨Ext.refl _, by first | rfl | trivial⟩
        · rintro ρ w1 hw hcst hfn hk
          clear hw
          simp only [known, List.getD_cons_zero, List.getD_cons_succ, Nat.reduceAdd] at hk
          simp only [List.getD_cons_zero, List.getD_cons_succ, Nat.reduceAdd, flowAt]
          go_simp
          exact ⟨Ext.refl _, by first | rfl | trivial⟩
        · rintro ρ w1 hw hcst hfn hk
          clear hw
          simp only [known, List.getD_cons_zero, List.getD_cons_succ, Nat.reduceAdd] at hk
          simp only [List.getD_cons_zero, List.getD_cons_succ, Nat.reduceAdd, flowAt]
          go_simp
          exact ⟨Ext.refl _, by first | rfl | trivial⟩
        · rintro ρ w1 hw hcst hfn hk
          clear hw
          simp only [known, List.getD_cons_zero, List.getD_cons_succ, Nat.reduceAdd] at hk
          simp only [List.getD_cons_zero, List.getD_cons_succ, Nat.reduceAdd, flowAt]
          go_simp
          exact ⟨Ext.refl _, by first | rfl | trivial⟩
      intro vs w1 hw hf
      simp only [flowFacts, Nat.reduceAdd] at hf
      obtain ⟨e0, e1, e2, e3, e4, e5, e6, e7, e8, -⟩ := hf
      simp only [List.take_succ_cons, List.take_zero, List.drop_succ_cons, List.drop_zero, putAll, Act.put, Nat.reduceAdd, List.setIfInBounds_toArray, List.set_cons_zero, List.set_cons_succ, e0, e1, e2, e3, e4, e5, e6, e7, e8]
      clear e0 e1 e2 e3 e4 e5 e6 e7 e8
      have hx := (Ext.refl _).drew.trans hw
      replace p5 := hx.cell p5
      replace p6 := hx.cell p6
      replace hE := hE.trans hx
      replace RL := hid (RL.out.ext hx)
      replace GD := hid (GD.out.ext hx)
      clear hx hw HC1 HS1
      go_wp2_with fail
      refine wp_region_flow_at (C := Ext) 12 [fun v _ => v = .agg #[.slice aD LD.length cD], fun v _ => v = .string y, fun v _ => v = .string y, fun v _ => v = .int .i64 (y).size, fun v _ => v = .int .i64 (m0 : Int), fun v _ => v = .string S2, fun v _ => v = .tuple #[.string F2, .int .i64 0], fun v _ => v = .tuple #[.string F2, .int .i64 0], fun v _ => v = .string F2, fun v _ => v = .int .i64 0, fun v _ => v = .string F2, fun v _ => v = .int .i64 0]
        [[(6, none)], [(8, none)], [(8, none)], [(104, some 2)], [(105, some 3)], [(103, some 1), (106, some 4)], [(102, some 0), (107, some 5)], [(108, some 6)], [(101, some 7)], [(101, some 7)], [(109, some 8)], [(110, some 9)]] (by kernel_rfl) (by kernel_rfl) Ext.refl (fun _ _ _ => Ext.trans) ?_ ?_ ?_
      · intro F hF
        simp only [List.mem_cons, List.not_mem_nil, or_false] at hF
        rcases hF with rfl | rfl | rfl | rfl | rfl | rfl | rfl | rfl | rfl | rfl | rfl | rfl <;> exact fun _ _ _ h _ => h
      · refine ⟨?_, ?_, ?_, ?_, ?_, ?_, ?_, ?_, ?_, ?_, ?_, ?_, trivial⟩
        · rintro ρ w1 hw hcst hfn hk
          have c0 := hw.cell (b := G6) (o := 0) (v := .slice aD LD.length cD) (by first | (simp [*]; done) | (simp [*, go_sem]; done) | go_cell)
          clear hw
          simp only [known, List.getD_cons_zero, List.getD_cons_succ, Nat.reduceAdd] at hk
          simp only [List.getD_cons_zero, List.getD_cons_succ, Nat.reduceAdd, flowAt]
          go_simp
          exact ⟨Ext.refl _, by first | rfl | trivial⟩
        · rintro ρ w1 hw hcst hfn hk
          clear hw
          simp only [known, List.getD_cons_zero, List.getD_cons_succ, Nat.reduceAdd] at hk
          simp only [List.getD_cons_zero, List.getD_cons_succ, Nat.reduceAdd, flowAt]
          go_simp
          exact ⟨Ext.refl _, by first | rfl | trivial⟩
        · rintro ρ w1 hw hcst hfn hk
          clear hw
          simp only [known, List.getD_cons_zero, List.getD_cons_succ, Nat.reduceAdd] at hk
          simp only [List.getD_cons_zero, List.getD_cons_succ, Nat.reduceAdd, flowAt]
          go_simp
          exact ⟨Ext.refl _, by first | rfl | trivial⟩
        · rintro ρ w1 hw hcst hfn hk
          clear hw
          simp only [known, List.getD_cons_zero, List.getD_cons_succ, Nat.reduceAdd] at hk
          simp only [List.getD_cons_zero, List.getD_cons_succ, Nat.reduceAdd, flowAt]
          go_simp
          exact ⟨Ext.refl _, by first | rfl | trivial⟩
        · rintro ρ w1 hw hcst hfn hk
          simp only [known, List.getD_cons_zero, List.getD_cons_succ, Nat.reduceAdd] at hk
          simp only [List.getD_cons_zero, List.getD_cons_succ, Nat.reduceAdd, flowAt]
          go_simp
          exact ⟨Ext.refl _, by first | rfl | rw [q2]⟩
        · rintro ρ w1 hw hcst hfn hk
          simp only [known, List.getD_cons_zero, List.getD_cons_succ, Nat.reduceAdd] at hk
          simp only [List.getD_cons_zero, List.getD_cons_succ, Nat.reduceAdd, flowAt]
          go_simp
          exact ⟨Ext.refl _, by rw [HS2.out]⟩
        · rintro ρ w1 hw hcst hfn hk
          simp only [known, List.getD_cons_zero, List.getD_cons_succ, Nat.reduceAdd] at hk
          simp only [List.getD_cons_zero, List.getD_cons_succ, Nat.reduceAdd, flowAt]
          go_simp
          exact flow_ret (HC2.out _ (GD.out.ext ((Ext.refl _).drew.trans hw)))
        · rintro ρ w1 hw hcst hfn hk
          clear hw
          simp only [known, List.getD_cons_zero, List.getD_cons_succ, Nat.reduceAdd] at hk
          simp only [List.getD_cons_zero, List.getD_cons_succ, Nat.reduceAdd, flowAt]
          go_simp
          exact ⟨Ext.refl _, by first | rfl | trivial⟩
        · rintro ρ w1 hw hcst hfn hk
          clear hw
          simp only [known, List.getD_cons_zero, List.getD_cons_succ, Nat.reduceAdd] at hk
          simp only [List.getD_cons_zero, List.getD_cons_succ, Nat.reduceAdd, flowAt]
          go_simp
          exact ⟨Ext.refl _, by first | rfl | trivial⟩
        · rintro ρ w1 hw hcst hfn hk
          clear hw
          simp only [known, List.getD_cons_zero, List.getD_cons_succ, Nat.reduceAdd] at hk
          simp only [List.getD_cons_zero, List.getD_cons_succ, Nat.reduceAdd, flowAt]
          go_simp
          exact ⟨Ext.refl _, by first | rfl | trivial⟩
        · rintro ρ w1 hw hcst hfn hk
          clear hw
          simp only [known, List.getD_cons_zero, List.getD_cons_succ, Nat.reduceAdd] at hk
          simp only [List.getD_cons_zero, List.getD_cons_succ, Nat.reduceAdd, flowAt]
          go_simp
          exact ⟨Ext.refl _, by first | rfl | trivial⟩
        · rintro ρ w1 hw hcst hfn hk
          clear hw
          simp only [known, List.getD_cons_zero, List.getD_cons_succ, Nat.reduceAdd] at hk
          simp only [List.getD_cons_zero, List.getD_cons_succ, Nat.reduceAdd, flowAt]
          go_simp
          exact ⟨Ext.refl _, by first | rfl | trivial⟩
      intro vs w1 hw hf
      simp only [flowFacts, Nat.reduceAdd] at hf
      obtain ⟨e0, e1, e2, e3, e4, e5, e6, e7, e8, e9, e10, e11, -⟩ := hf
      simp only [List.take_succ_cons, List.take_zero, List.drop_succ_cons, List.drop_zero, putAll, Act.put, Nat.reduceAdd, List.setIfInBounds_toArray, List.set_cons_zero, List.set_cons_succ, e0, e1, e2, e3, e4, e5, e6, e7, e8, e9, e10, e11]
      clear e0 e1 e2 e3 e4 e5 e6 e7 e8 e9 e10 e11
      have hx := (Ext.refl _).drew.trans hw
      replace p5 := hx.cell p5
      replace p6 := hx.cell p6
      replace hE := hE.trans hx
      replace RL := hid (RL.out.ext hx)
      replace GD := hid (GD.out.ext hx)
      clear hx hw HC2 HS2
      go_wp2_with fail
      refine (HAT.out 1 y.size _ hE (by omega) ⟨by omega, by omega⟩).mono ?_
      rintro e z5 ⟨kk, hkk, rfl, rfl⟩
      obtain ⟨k1, hk1⟩ : ∃ k1, kk + 1 = k1 := ⟨_, rfl⟩
      have q3 : IntKind.i64.wrap ((kk : Int) + 1) = (k1 : Int) := by rw [IntWalk.i64_in _ (by omega)]; omega
      have hk2 : (kk : Int) ≤ (y.size : Int) := by omega
      have hk3 : (k1 : Int) ≤ (y.size : Int) := by omega
      have hk4 : (kk : Int) < (y.size : Int) := by omega
      have g3 := HGO.out kk hkk
      have i3 := HGI.out kk hkk
      rw [hk1] at g3 i3
      obtain ⟨A3, hA3⟩ : ∃ S, y.extract 0 kk = S := ⟨_, rfl⟩
      obtain ⟨B3, hB3⟩ : ∃ S, y.extract k1 y.size = S := ⟨_, rfl⟩
      rw [hA3, hB3] at g3 i3
      have t3 : A3.size ≤ 12 := by rw [← hA3, ByteArray.size_extract]; omega
      have t4 : B3.size ≤ 12 := by rw [← hB3, ByteArray.size_extract]; omega
      have HC3 := hid (fun w' h => HMD.out A3 B3 w' aD cD LD h g3 (by omega) (by omega) (by rw [ByteArray.size_append]; omega))
      have r3 := hookS_sz L A3 B3
      obtain ⟨F3, hF3⟩ : ∃ F, hookS L A3 B3 = F := ⟨_, rfl⟩
      rw [hF3] at HC3 r3 i3
      have HL3 := hid (fun w' => a2Letter_any F3 (bAt y kk) w' (by omega))
      rw [i3, ← bAt_eq y kk hkk] at HL3
      have HA3 := hid hA3
      have HB3 := hid hB3
      clear hk1 hA3 hB3 hF3 g3 i3 t3 t4 r3 HGO HGI HMD HAT
      go_wp2_with fail
      refine wp_region_flow_at (C := Ext) 14 [fun v _ => v = .agg #[.slice aD LD.length cD], fun v _ => v = .string y, fun v _ => v = .int .i64 (kk : Int), fun v _ => v = .string A3, fun v _ => v = .string y, fun v _ => v = .int .i64 (kk : Int), fun v _ => v = .int .i64 (k1 : Int), fun v _ => v = .string B3, fun v _ => v = .tuple #[.string F3, .int .i64 0], fun v _ => v = .tuple #[.string F3, .int .i64 0], fun v _ => v = .string F3, fun v _ => v = .int .i64 0, fun v _ => v = .string F3, fun v _ => v = .int .i64 0]
        [[(6, none)], [(8, none)], [(18, none)], [(117, some 1), (118, some 2)], [(8, none)], [(18, none)], [(121, some 5)], [(120, some 4), (122, some 6)], [(116, some 0), (119, some 3), (123, some 7)], [(124, some 8)], [(115, some 9)], [(115, some 9)], [(125, some 10)], [(126, some 11)]] (by kernel_rfl) (by kernel_rfl) Ext.refl (fun _ _ _ => Ext.trans) ?_ ?_ ?_
      · intro F hF
        simp only [List.mem_cons, List.not_mem_nil, or_false] at hF
        rcases hF with rfl | rfl | rfl | rfl | rfl | rfl | rfl | rfl | rfl | rfl | rfl | rfl | rfl | rfl <;> exact fun _ _ _ h _ => h
      · refine ⟨?_, ?_, ?_, ?_, ?_, ?_, ?_, ?_, ?_, ?_, ?_, ?_, ?_, ?_, trivial⟩
        · rintro ρ w1 hw hcst hfn hk
          have c0 := hw.cell (b := G6) (o := 0) (v := .slice aD LD.length cD) (by first | (simp [*]; done) | (simp [*, go_sem]; done) | go_cell)
          clear hw
          simp only [known, List.getD_cons_zero, List.getD_cons_succ, Nat.reduceAdd] at hk
          simp only [List.getD_cons_zero, List.getD_cons_succ, Nat.reduceAdd, flowAt]
          go_simp
          exact ⟨Ext.refl _, by first | rfl | trivial⟩
        · rintro ρ w1 hw hcst hfn hk
          clear hw
          simp only [known, List.getD_cons_zero, List.getD_cons_succ, Nat.reduceAdd] at hk
          simp only [List.getD_cons_zero, List.getD_cons_succ, Nat.reduceAdd, flowAt]
          go_simp
          exact ⟨Ext.refl _, by first | rfl | trivial⟩
        · rintro ρ w1 hw hcst hfn hk
          clear hw
          simp only [known, List.getD_cons_zero, List.getD_cons_succ, Nat.reduceAdd] at hk
          simp only [List.getD_cons_zero, List.getD_cons_succ, Nat.reduceAdd, flowAt]
          go_simp
          exact ⟨Ext.refl _, by first | rfl | trivial⟩
        · rintro ρ w1 hw hcst hfn hk
          simp only [known, List.getD_cons_zero, List.getD_cons_succ, Nat.reduceAdd] at hk
          simp only [List.getD_cons_zero, List.getD_cons_succ, Nat.reduceAdd, flowAt]
          go_simp
          exact ⟨Ext.refl _, by rw [HA3.out]⟩
        · rintro ρ w1 hw hcst hfn hk
          clear hw
          simp only [known, List.getD_cons_zero, List.getD_cons_succ, Nat.reduceAdd] at hk
          simp only [List.getD_cons_zero, List.getD_cons_succ, Nat.reduceAdd, flowAt]
          go_simp
          exact ⟨Ext.refl _, by first | rfl | trivial⟩
        · rintro ρ w1 hw hcst hfn hk
          clear hw
          simp only [known, List.getD_cons_zero, List.getD_cons_succ, Nat.reduceAdd] at hk
          simp only [List.getD_cons_zero, List.getD_cons_succ, Nat.reduceAdd, flowAt]
          go_simp
          exact ⟨Ext.refl _, by first | rfl | trivial⟩
        · rintro ρ w1 hw hcst hfn hk
          simp only [known, List.getD_cons_zero, List.getD_cons_succ, Nat.reduceAdd] at hk
          simp only [List.getD_cons_zero, List.getD_cons_succ, Nat.reduceAdd, flowAt]
          go_simp
          exact ⟨Ext.refl _, by first | rfl | rw [q3]⟩
        · rintro ρ w1 hw hcst hfn hk
          simp only [known, List.getD_cons_zero, List.getD_cons_succ, Nat.reduceAdd] at hk
          simp only [List.getD_cons_zero, List.getD_cons_succ, Nat.reduceAdd, flowAt]
          go_simp
          exact ⟨Ext.refl _, by rw [HB3.out]⟩
        · rintro ρ w1 hw hcst hfn hk
          simp only [known, List.getD_cons_zero, List.getD_cons_succ, Nat.reduceAdd] at hk
          simp only [List.getD_cons_zero, List.getD_cons_succ, Nat.reduceAdd, flowAt]
          go_simp
          exact flow_ret (HC3.out _ (GD.out.ext ((Ext.refl _).drew.trans hw)))
        · rintro ρ w1 hw hcst hfn hk
          clear hw
          simp only [known, List.getD_cons_zero, List.getD_cons_succ, Nat.reduceAdd] at hk
          simp only [List.getD_cons_zero, List.getD_cons_succ, Nat.reduceAdd, flowAt]
          go_simp
          exact ⟨Ext.refl _, by first | rfl | trivial⟩
        · rintro ρ w1 hw hcst hfn hk
          clear hw
          simp only [known, List.getD_cons_zero, List.getD_cons_succ, Nat.reduceAdd] at hk
          simp only [List.getD_cons_zero, List.getD_cons_succ, Nat.reduceAdd, flowAt]
          go_simp
          exact ⟨Ext.refl _, by first | rfl | trivial⟩
        · rintro ρ w1 hw hcst hfn hk
          clear hw
          simp only [known, List.getD_cons_zero, List.getD_cons_succ, Nat.reduceAdd] at hk
          simp only [List.getD_cons_zero, List.getD_cons_succ, Nat.reduceAdd, flowAt]
          go_simp
          exact ⟨Ext.refl _, by first | rfl | trivial⟩
        · rintro ρ w1 hw hcst hfn hk
          clear hw
          simp only [known, List.getD_cons_zero, List.getD_cons_succ, Nat.reduceAdd] at hk
          simp only [List.getD_cons_zero, List.getD_cons_succ, Nat.reduceAdd, flowAt]
          go_simp
          exact ⟨Ext.refl _, by first | rfl | trivial⟩
        · rintro ρ w1 hw hcst hfn hk
          clear hw
          simp only [known, List.getD_cons_zero, List.getD_cons_succ, Nat.reduceAdd] at hk
          simp only [List.getD_cons_zero, List.getD_cons_succ, Nat.reduceAdd, flowAt]
          go_simp
          exact ⟨Ext.refl _, by first | rfl | trivial⟩
      intro vs w1 hw hf
      simp only [flowFacts, Nat.reduceAdd] at hf
      obtain ⟨e0, e1, e2, e3, e4, e5, e6, e7, e8, e9, e10, e11, e12, e13, -⟩ := hf
      simp only [List.take_succ_cons, List.take_zero, List.drop_succ_cons, List.drop_zero, putAll, Act.put, Nat.reduceAdd, List.setIfInBounds_toArray, List.set_cons_zero, List.set_cons_succ, e0, e1, e2, e3, e4, e5, e6, e7, e8, e9, e10, e11, e12, e13]
      clear e0 e1 e2 e3 e4 e5 e6 e7 e8 e9 e10 e11 e12 e13
      have hx := (Ext.refl _).drew.trans hw
      replace p5 := hx.cell p5
      replace p6 := hx.cell p6
      replace hE := hE.trans hx
      replace RL := hid (RL.out.ext hx)
      replace GD := hid (GD.out.ext hx)
      clear hx hw HC3 HA3 HB3 q3 hk2 hk3
      go_wp2_with fail
      refine (HWY.out _ RL.out).mono ?_
      rintro e z6 ⟨rfl, hx⟩
      replace p5 := hx.cell p5
      replace p6 := hx.cell p6
      replace hE := hE.trans hx
      replace RL := hid (RL.out.ext hx)
      replace GD := hid (GD.out.ext hx)
      clear hx HWY GD p6
      have HB := hid (show (H == H) = true by simp)
      go_wp2_with fail
      refine (HL1.out _).mono ?_
      rintro e z7 ⟨rfl, rfl⟩
      go_wp2_with fail
      refine (HL2.out _).mono ?_
      rintro e z8 ⟨rfl, rfl⟩
      go_wp2_with fail
      refine (HL3.out _).mono ?_
      rintro e z9 ⟨rfl, rfl⟩
      go_wp2_with fail
      go_returns
      exact ⟨by first | rfl | simp, hE⟩
set_option maxRecDepth 100000 in
theorem lifted_FnPlaces (os : Os) (started : os.Started) (H : Type) (enc : TypeId × Value → H) :
    ReturnsInHanded {} Tryz.checked os 3 .any (fun w args => (Rows.fnPlacesSpec.pre enc Tryz.prog Tryz.f3 [] false w args ∧ laidMetH Tryz.prog Rows.fnPlacesRow.laid w) ∧ sizedMet enc Tryz.prog Tryz.f3 (OpenSpec.ofChange Rows.fnPlacesSpec) false w args)
      (Rows.fnPlacesSpec.post enc Tryz.prog Tryz.f3 false true false false) := by
  refine returnsInHanded_of_change_and (C := Tryz.checked) (X := fun w _ => laidMetH Tryz.prog Rows.fnPlacesRow.laid w) (fun _ _ _ hh h => h.of_heap hh) ownRow started (by kernel_rfl) Tryz.func3
    (ChangeSpec.witness_shaped (enc := enc) (C := Tryz.checked) (os := os) (X := fun w _ => laidMetH Tryz.prog Rows.fnPlacesRow.laid w) false (World.laidAll Tryz.prog os Rows.fnPlacesRow.laid) #[.slice none 0 0, .slice none 0 0] 8 (World.laidAll_os _ _ _)
      (World.shaped_of_ZipB (by kernel_rfl) (by kernel_rfl)) (by kernel_rfl) (by kernel_rfl) (by kernel_rfl)
      (by rw [MakeChecks.laidMetH_plain _ _ _ (by kernel_rfl)]; exact laidMet_laidAll _ (by kernel_rfl) (by kernel_rfl))) ?_
  intro W base args ds gs before hval0 hW _ _ hL _
  have hval : ∀ (j : Nat) t v, Tryz.f3.params[j]? = some t → args[j]? = some v → Value.okWide Tryz.prog W .any base t v := hval0
  have hW' := hW
  obtain ⟨p, q, hA0, hV, rfl, hfz, hnd⟩ := hW
  have hA : DataW.TrodAll enc Tryz.prog W 0 (fun _ => true) true Tryz.f3.params.toList args.toList ds p := hA0
  rw [Tryz.params3] at hA hval
  obtain ⟨v0, vs0, d0, ds0, p0, q0, hargs, rfl, rfl, h0, r0⟩ := trodAll_cons hA
  obtain ⟨v1, vs1, d1, ds1, p1, q1, rfl, rfl, rfl, h1, r1⟩ := trodAll_cons r0
  obtain ⟨rfl, rfl, rfl⟩ := trodAll_nil r1
  obtain rfl : args = #[v0, v1] := by cases args; simp_all
  obtain ⟨rfl, rfl⟩ := trodVars_none hV
  have k0 := h0
  have lt0 : ∀ x ∈ p0, x.block < W.heap.size := by obtain ⟨m, hm⟩ := k0; exact DataW.trod_lt m _ _ _ hm
  have k1 := h1
  have lt1 : ∀ x ∈ p1, x.block < W.heap.size := by obtain ⟨m, hm⟩ := k1; exact DataW.trod_lt m _ _ _ hm
  obtain ⟨a0_a, a0_c, a0_l, rfl, r_a0, n_a0⟩ := open_code Tryz.underlying22 Tryz.underlying5 (by kernel_rfl) (hval 0 22 v0 rfl rfl) h0
  obtain ⟨a1_a, a1_c, a1_l, rfl, r_a1, n_a1⟩ := open_code Tryz.underlying22 Tryz.underlying5 (by kernel_rfl) (hval 1 22 v1 rfl rfl) h1
  clear hA0 hval0
  rw [MakeChecks.laidMetH_plain _ _ _ (by kernel_rfl)] at hL
  refine (walk_FnPlaces a0_a a0_c a0_l a1_a a1_c a1_l W r_a0 n_a0 r_a1 n_a1 (tabF_of hL)).mono fun e W' ⟨he, bel⟩ => ?_
  subst he
  exact ⟨_, rfl, _, _, _, [], _, [], hW', trodAll_mk1 (shut_bool Tryz.underlying4 _), (trodAll_cons_mk (Below.trod laidRow (by kernel_rfl) (of_decide_eq_true (by kernel_rfl)) k0 bel lt0) (trodAll_cons_mk (Below.trod laidRow (by kernel_rfl) (of_decide_eq_true (by kernel_rfl)) k1 bel lt1) trodAll_mk0)), rfl, bel.frame _, fun h => by cases h⟩

theorem over_FnPlaces : Rows.fnPlacesRow.holds Tryz.pinned (OpenSpec.ofChange Rows.fnPlacesSpec) :=
  OpenClaim.holds_of_wide 3 Tryz.f3 rfl rfl rfl rfl rfl rfl rfl ⟨rfl, rfl, rfl, rfl, rfl⟩ rfl rfl rfl rfl rfl (by kernel_rfl) Tryz.func3 (by kernel_rfl)
    (of_decide_eq_true (by kernel_rfl)) (by unfold Func.isWrapper; first | (rw [if_pos (by decide +kernel)]; kernel_rfl) | (rw [if_neg (by decide +kernel)]; exact ⟨rfl, rfl⟩))
    (fun os started H enc _ => lifted_FnPlaces os started H enc)

theorem said_FnPlaces : Rows.FnPlacesCardSaid :=
  Claim7.holds_tied_plain_at .later [] [.data, .data, .data] true (true, "06355573790622760e499640b6cb3ecce39f718f07265d7443a7a9b2b88a9dbf") false over_FnPlaces (fun _ h => by cases h) (by kernel_rfl) (fun _ h => by cases h) fnPlaces_row_tie rfl ⟨rfl, rfl⟩ (by kernel_rfl) rfl
    (fun f fn hf hfn => by
      obtain rfl : f = 3 := Option.some.inj ((show Tryz.prog.funcNamed "loop.example/g00911/laws.FnPlaces" = some 3 by kernel_rfl).symm.trans hf) |>.symm
      obtain rfl : fn = Tryz.f3 := (Option.some.inj (Tryz.func3.symm.trans hfn)).symm
      exact ⟨by kernel_rfl, fun j t ht => by
        rw [Tryz.params3] at ht
        have hm : t ∈ [22, 22] := by simpa using Array.mem_of_getElem? ht
        have hall : ([22, 22].all fun u => !Tryz.prog.wantsStandIn u) = true := by kernel_rfl
        exact (show Tryz.prog.wantsStandIn t = false by simpa using List.all_eq_true.1 hall t hm)⟩)
    (by kernel_rfl)
end Go.Proofs.YtabljchbchjjcaaGreatDoor
