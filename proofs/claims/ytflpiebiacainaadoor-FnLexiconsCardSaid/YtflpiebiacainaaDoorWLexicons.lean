/- FnLexicons: whatever it is given, it says yes. No condition. -/
import Derived.Test.YtflpiebiacainaaDoorLexQ
import Derived.Test.YtflpiebiacainaaDoorRowS
import Derived.Test.YtflpiebiacainaaDoorRow3
namespace Go.Proofs.YtflpiebiacainaaDoor
set_option linter.unusedVariables false
set_option linter.unusedSimpArgs false
open Go Go.RowKit Go.ChangeShapes Go.WideShapes Go.ChangeAt
open Go.ChangeMaps (open_string shut_string)
theorem two_new (w : World) (x y : Value) (t : TypeId) : Rd (w.alloc (.cells #[x, y] t)) (some ⟨w.heap.size, 0, none⟩) [x, y] := fun j u hj => by
  refine ⟨w.heap.size, 0, rfl, ?_⟩
  rw [Nat.zero_add, cell_of_row _ w.heap.size j _ t (0, 0) (heap_alloc_new w _)]
  simpa using hj
set_option maxRecDepth 100000 in
set_option maxHeartbeats 16000000 in
theorem walk_FnLexicons (a : Option Addr) (cc : Nat) (l : List UInt8) (b : Option Addr) (dd : Nat) (m : List UInt8) (w : World) (hr : Rd w a (bytesV l)) (hl : l.length ≤ maxLen) (hr2 : Rd w b (bytesV m)) (hl2 : m.length ≤ maxLen) (hM : MaxAt w) :
    Calls Tryd.prog 3 #[.slice a l.length cc, .slice b m.length dd] w (Ret (.bool true) w) := by
  have HR := hid hr
  have HR2 : Hid (∀ w', Ext w w' → Rd w' b (bytesV m)) := hid (fun w' k => hr2.ext k)
  have HM : Hid (∀ w', Ext w w' → MaxAt w') := hid (fun w' k => hM.ext k)
  have HF := hid (a2Long_any a b cc dd l m w hl hl2)
  clear hr hM hr2
  by_cases hbig : (decide (3000 < l.length) || decide (3000 < m.length)) = true
  · rw [hbig] at HF
    clear hbig
    go_enter Tryd.func3, Tryd.ntmps3
    go_wp2_with fail
    refine HF.out.mono ?_
    rintro e w' ⟨rfl, rfl⟩
    go_wp2_with fail
    go_returns
    exact ⟨rfl, Ext.refl _⟩
  rw [show (decide (3000 < l.length) || decide (3000 < m.length)) = false by simpa using hbig] at HF
  have hb2 : l.length ≤ 3000 ∧ m.length ≤ 3000 := by simp at hbig; omega
  have HD := hid (A2Lexicon_any a cc l w HR.out (by omega))
  have HW := hid (fun w' (x : Ext w w') => A2Word_any b dd m w' (HR2.out _ x) (by omega))
  clear hbig HR HR2 hb2
  go_enter Tryd.func3, Tryd.ntmps3
  go_wp2_with fail
  refine HF.out.mono ?_
  rintro e w' ⟨rfl, rfl⟩
  go_wp2_with fail
  refine HD.out.mono ?_
  rintro e z0 ⟨a1, c1, L, rfl, hrd, hn, hri, hso, hx⟩
  have h16 : L.length ≤ 16 := by omega
  have hw : ∀ s ∈ L, longOk s = true := fun s hs => List.all_eq_true.1 some_long s (hso s hs)
  have HW' := hid hw
  have HRI := hid hri
  have hok : lexOk L = true := drawn_ok (by omega) hri hso
  have HOK := hid hok
  have hsz : ∀ s ∈ L, s.size ≤ 1048576 := fun s hs => by have := (long_size (hw s hs)).2; omega
  have HSZ := hid hsz
  obtain ⟨mk1, mk2⟩ := make_back hri (by omega) hw
  have HMK := hid (fun a' c' w' (h : Rd w' a' (strsV (bkL L 0))) => MakeLexicon_any a' c' (bkL L 0) w' h (by rw [bkL_len]; omega) (fun s hs => hsz s (bkL_mem.1 hs)))
  rw [mk1, mk2] at HMK
  have HTX := hid (fun w' (h : Rd w' a1 (strsV L)) => LexiconText_yes a1 c1 L w' h hok)
  have HRL := hid (fun w' (h : MaxAt w') => ReadLexicon_yes L w' hok h)
  have HSM := hid (fun a' c' w' (h : Rd w' a' (strsV L)) (h' : Rd w' a1 (strsV L)) => SameLexicon_self a' a1 c' c1 L w' h h' (by omega))
  have HE := hid hx
  have hrd' := hid hrd
  clear hrd hn hso hx HF HD hw hri hok hsz mk1 mk2
  have hx := (Ext.refl z0).alloc (.cells #[.slice a1 L.length c1] 26)
  have p0 : (z0.alloc (.cells #[.slice a1 L.length c1] 26)).cell? ⟨z0.heap.size, 0, none⟩ = some (.slice a1 L.length c1) := by simp
  have hE := HE.out.trans hx
  have RL := hid (hrd'.out.ext hx)
  clear hx hrd' HE
  go_wp2_with fail
  refine (HW.out _ hE).mono ?_
  rintro e z1 ⟨y, hy, rfl, hx⟩
  have hyl : longOk y = true := List.all_eq_true.1 some_long y hy
  have HYL := hid hyl
  replace p0 := hx.cell p0
  replace hE := hE.trans hx
  replace RL := hid (RL.out.ext hx)
  obtain ⟨G, hG⟩ : ∃ G, z0.heap.size = G := ⟨_, rfl⟩
  rw [hG] at p0
  have q1 : IntKind.i64.wrap ((L.length : Int) - 1) = (L.length : Int) - 1 := IntWalk.i64_in _ (by omega)
  clear hx HW hy
  have hlt1 := World.block_lt_of_cell? _ _ p0
  go_wp2_with fail
  clear hG
  go_loopw [7, 8] (fun v i wr => ∃ (k n c' : Nat) (a' : Option Addr), k ≤ L.length ∧ i = .int .i64 ((k : Int) - 1) ∧ v = .slice a' n c' ∧ Hid (n = (bkL L k).length) ∧ n ≤ 32 ∧ Hid (Own wr z1.heap.size 9 1 a' n c' (strsV (bkL L k))) ∧ Ext z1 wr) (fun _ i _ => (intOf i + 1).toNat)
  case atStart => exact ⟨L.length, 0, 0, some ⟨z1.heap.size, 0, none⟩, by omega, rfl, rfl, hid (by rw [bkL_end]; rfl), by omega, hid (by rw [bkL_end]; exact Own.empty _ _ _ _ _), (Ext.refl _).alloc _⟩
  case round =>
    obtain ⟨k, n, c', a', hk, rfl, rfl, hnn, hn32, ho, hxr⟩ := hrel
    have hE2 := hE.trans hxr
    have pk := hxr.cell p0
    have RLk := hid (RL.out.ext hxr)
    have hz := hxr.size
    by_cases hlt : 0 < k
    · obtain ⟨j, rfl⟩ : ∃ j, k = j + 1 := ⟨k - 1, by omega⟩
      obtain ⟨g1, o1, rfl, hc⟩ := RLk.out.word (by omega)
      have ck := hc j (by omega)
      have HST := hid (bkL_step (l := L) (k := j) (by omega))
      obtain ⟨s, hs⟩ : ∃ s, wAt L j = s := ⟨_, rfl⟩
      rw [hs] at ck HST
      obtain ⟨q, hq⟩ : ∃ q, o1 + j = q := ⟨_, rfl⟩
      rw [hq] at ck
      have hj1 : ((j + 1 : Nat) : Int) - 1 = (j : Int) := by omega
      rw [hj1]
      have hjl : (j : Int) < L.length := by omega
      have hjl2 : j < L.length := by omega
      have q2 : IntKind.i64.wrap ((j : Int) - 1) = (j : Int) - 1 := IntWalk.i64_in _ (by omega)
      clear hc hs hj1
      go_wp2_with fail
      refine wp_region_flow_at (C := Ext) 12 [fun v _ => v = .slice a' n c', fun v _ => v = .pointer (some ⟨G, 0, none⟩), fun v _ => v = .slice (some ⟨g1, o1, none⟩) L.length c1, fun v _ => v = .int .i64 (j : Int), fun v _ => v = .pointer (some ⟨g1, q, none⟩), fun v _ => v = .string s, fun v _ => v = .pointer (some ⟨G, 0, none⟩), fun v _ => v = .slice (some ⟨g1, o1, none⟩) L.length c1, fun v _ => v = .int .i64 (j : Int), fun v _ => v = .pointer (some ⟨g1, q, none⟩), fun v _ => v = .string s, fun v w' => ∃ g, v = .slice (some ⟨g, 0, none⟩) 2 2 ∧ Rd w' (some ⟨g, 0, none⟩) [.string s, .string s]]
        [[(7, none)], [(5, none)], [(38, some 1)], [(8, none)], [(39, some 2), (40, some 3)], [(41, some 4)], [(5, none)], [(43, some 6)], [(8, none)], [(44, some 7), (45, some 8)], [(46, some 9)], [(42, some 5), (47, some 10)]] (by kernel_rfl) (by kernel_rfl) Ext.refl (fun _ _ _ => Ext.trans) ?_ ?_ ?_
      · intro F hF
        simp only [List.mem_cons, List.not_mem_nil, or_false] at hF
        rcases hF with rfl | rfl | rfl | rfl | rfl | rfl | rfl | rfl | rfl | rfl | rfl | rfl
        · exact fun _ _ _ h _ => h
        · exact fun _ _ _ h _ => h
        · exact fun _ _ _ h _ => h
        · exact fun _ _ _ h _ => h
        · exact fun _ _ _ h _ => h
        · exact fun _ _ _ h _ => h
        · exact fun _ _ _ h _ => h
        · exact fun _ _ _ h _ => h
        · exact fun _ _ _ h _ => h
        · exact fun _ _ _ h _ => h
        · exact fun _ _ _ h _ => h
        · exact fun _ _ _ ⟨g, h1, h2⟩ k => ⟨g, h1, h2.ext k⟩
      · refine ⟨?_, ?_, ?_, ?_, ?_, ?_, ?_, ?_, ?_, ?_, ?_, ?_, trivial⟩
        · rintro ρ w1 hw hcst hfn hk
          clear hw
          simp only [known, List.getD_cons_zero, List.getD_cons_succ, Nat.reduceAdd] at hk
          simp only [List.getD_cons_zero, List.getD_cons_succ, Nat.reduceAdd, flowAt]
          go_simp
          exact ⟨Ext.refl _, by first | rfl | trivial⟩
        · rintro ρ w1 hw hcst hfn hk
          clear hw
          simp only [known, List.getD_cons_zero, List.getD_cons_succ, Nat.reduceAdd] at hk
          simp only [List.getD_cons_zero, List.getD_cons_succ, Nat.reduceAdd, flowAt]
          go_simp
          exact ⟨Ext.refl _, by first | rfl | trivial⟩
        · rintro ρ w1 hw hcst hfn hk
          have c0 := hw.cell (b := G) (o := 0) (v := .slice (some ⟨g1, o1, none⟩) L.length c1) (by first | (simp [*]; done) | (simp [*, go_sem]; done) | go_cell)
          clear hw
          simp only [known, List.getD_cons_zero, List.getD_cons_succ, Nat.reduceAdd] at hk
          simp only [List.getD_cons_zero, List.getD_cons_succ, Nat.reduceAdd, flowAt]
          go_simp
          exact ⟨Ext.refl _, by first | rfl | trivial⟩
        · rintro ρ w1 hw hcst hfn hk
          clear hw
          simp only [known, List.getD_cons_zero, List.getD_cons_succ, Nat.reduceAdd] at hk
          simp only [List.getD_cons_zero, List.getD_cons_succ, Nat.reduceAdd, flowAt]
          go_simp
          exact ⟨Ext.refl _, by first | rfl | trivial⟩
        · rintro ρ w1 hw hcst hfn hk
          simp only [known, List.getD_cons_zero, List.getD_cons_succ, Nat.reduceAdd] at hk
          simp only [List.getD_cons_zero, List.getD_cons_succ, Nat.reduceAdd, flowAt]
          go_simp
          exact ⟨Ext.refl _, by first | rfl | rw [hq]⟩
        · rintro ρ w1 hw hcst hfn hk
          have c0 := hw.cell (b := g1) (o := q) (v := .string s) (by first | (simp [*]; done) | (simp [*, go_sem]; done) | go_cell)
          clear hw
          simp only [known, List.getD_cons_zero, List.getD_cons_succ, Nat.reduceAdd] at hk
          simp only [List.getD_cons_zero, List.getD_cons_succ, Nat.reduceAdd, flowAt]
          go_simp
          exact ⟨Ext.refl _, by first | rfl | trivial⟩
        · rintro ρ w1 hw hcst hfn hk
          clear hw
          simp only [known, List.getD_cons_zero, List.getD_cons_succ, Nat.reduceAdd] at hk
          simp only [List.getD_cons_zero, List.getD_cons_succ, Nat.reduceAdd, flowAt]
          go_simp
          exact ⟨Ext.refl _, by first | rfl | trivial⟩
        · rintro ρ w1 hw hcst hfn hk
          have c0 := hw.cell (b := G) (o := 0) (v := .slice (some ⟨g1, o1, none⟩) L.length c1) (by first | (simp [*]; done) | (simp [*, go_sem]; done) | go_cell)
          clear hw
          simp only [known, List.getD_cons_zero, List.getD_cons_succ, Nat.reduceAdd] at hk
          simp only [List.getD_cons_zero, List.getD_cons_succ, Nat.reduceAdd, flowAt]
          go_simp
          exact ⟨Ext.refl _, by first | rfl | trivial⟩
        · rintro ρ w1 hw hcst hfn hk
          clear hw
          simp only [known, List.getD_cons_zero, List.getD_cons_succ, Nat.reduceAdd] at hk
          simp only [List.getD_cons_zero, List.getD_cons_succ, Nat.reduceAdd, flowAt]
          go_simp
          exact ⟨Ext.refl _, by first | rfl | trivial⟩
        · rintro ρ w1 hw hcst hfn hk
          simp only [known, List.getD_cons_zero, List.getD_cons_succ, Nat.reduceAdd] at hk
          simp only [List.getD_cons_zero, List.getD_cons_succ, Nat.reduceAdd, flowAt]
          go_simp
          exact ⟨Ext.refl _, by first | rfl | rw [hq]⟩
        · rintro ρ w1 hw hcst hfn hk
          have c0 := hw.cell (b := g1) (o := q) (v := .string s) (by first | (simp [*]; done) | (simp [*, go_sem]; done) | go_cell)
          clear hw
          simp only [known, List.getD_cons_zero, List.getD_cons_succ, Nat.reduceAdd] at hk
          simp only [List.getD_cons_zero, List.getD_cons_succ, Nat.reduceAdd, flowAt]
          go_simp
          exact ⟨Ext.refl _, by first | rfl | trivial⟩
        · rintro ρ w1 hw hcst hfn hk
          simp only [known, List.getD_cons_zero, List.getD_cons_succ, Nat.reduceAdd] at hk
          simp only [List.getD_cons_zero, List.getD_cons_succ, Nat.reduceAdd, flowAt]
          go_simp
          exact ⟨(Ext.refl _).alloc _, w1.heap.size, rfl, two_new _ _ _ _⟩
      intro vs w1 hw hf
      simp only [flowFacts, Nat.reduceAdd] at hf
      obtain ⟨e0, e1, e2, e3, e4, e5, e6, e7, e8, e9, e10, e11, -⟩ := hf
      simp only [List.take_succ_cons, List.take_zero, List.drop_succ_cons, List.drop_zero, putAll, Act.put, Nat.reduceAdd, List.setIfInBounds_toArray, List.set_cons_zero, List.set_cons_succ, e0, e1, e2, e3, e4, e5, e6, e7, e8, e9, e10]
      clear e0 e1 e2 e3 e4 e5 e6 e7 e8 e9 e10
      obtain ⟨g0, hg0, hgc⟩ := e11
      rw [hg0]
      have hx4 := ((Ext.refl _).drew.trans hw)
      have hown2 := ho.out.ext hx4
      have hs2 := hx4.size
      have hxx := hxr.trans hx4
      clear hx4 hw ho ck pk
      go_wp2_with (at_builtin; refine wpList_appendv rfl _ _ 24 rfl El_str rfl rfl [.string s, .string s] hgc rfl (by omega) (by simp [Value.oneCell']) hown2 (by omega) (by unfold maxLen; omega) (by omega) ?_; intro a3 c3 w4 hown3 hb3; have HO := hid hown3; clear hown3 hown2)
      go_roundw
      case rel => exact ⟨j, n + 2, c3, a3, by omega, by first | rfl | go_num, rfl, hid (by rw [HST.out]; simp [← hnn.out]), by have h1 := bkL_len L j; rw [HST.out] at h1; simp [← hnn.out] at h1; omega, hid (by rw [HST.out]; simpa [strsV] using HO.out), hxx.thenBelow hb3 (by omega)⟩
      case measure => first | (simp [intOf]; done) | (simp [intOf]; omega)
    · obtain rfl : k = 0 := by omega
      have hneg : ¬ (0 : Int) ≤ ((0 : Nat) : Int) - 1 := by omega
      have HOO := hid ho.out.rd
      rw [hnn.out] at *
      clear ho hlt
      go_wp2_with fail
      refine (HMK.out _ _ _ HOO.out).mono ?_
      rintro e z2 ⟨a2, c2, rfl, hi2, hx⟩
      have R2 := hid hi2.rd
      replace p0 := hx.cell pk
      replace hE := hE2.trans hx
      replace RL := hid (RLk.out.ext hx)
      clear hx hi2 hE2 hxr pk RLk HOO HMK hz hneg
      have hl_p0 := World.block_lt_of_cell? _ _ p0
      have hx := (Ext.refl z2).alloc (.cells #[.slice a2 L.length c2] 26)
      have p1 : (z2.alloc (.cells #[.slice a2 L.length c2] 26)).cell? ⟨z2.heap.size, 0, none⟩ = some (.slice a2 L.length c2) := by simp
      replace p0 := hx.cell p0
      replace hE := hE.trans hx
      replace RL := hid (RL.out.ext hx)
      replace R2 := hid (R2.out.ext hx)
      clear hx hl_p0
      go_wp2_with fail
      refine (HTX.out _ RL.out).mono ?_
      rintro e z3 ⟨rfl, hx⟩
      replace p0 := hx.cell p0
      replace p1 := hx.cell p1
      replace hE := hE.trans hx
      replace RL := hid (RL.out.ext hx)
      replace R2 := hid (R2.out.ext hx)
      clear hx
      go_wp2_with fail
      refine (HRL.out _ (HM.out _ hE)).mono ?_
      rintro e z4 ⟨a3, c3, rfl, hr3, hx⟩
      have R3 := hid hr3
      clear hr3 HTX HRL
      replace p0 := hx.cell p0
      replace p1 := hx.cell p1
      replace hE := hE.trans hx
      replace RL := hid (RL.out.ext hx)
      replace R2 := hid (R2.out.ext hx)
      clear hx
      have hl_p0 := World.block_lt_of_cell? _ _ p0
      have hl_p1 := World.block_lt_of_cell? _ _ p1
      have hx := (Ext.refl z4).alloc (.cells #[.slice a3 L.length c3] 26)
      have p2 : (z4.alloc (.cells #[.slice a3 L.length c3] 26)).cell? ⟨z4.heap.size, 0, none⟩ = some (.slice a3 L.length c3) := by simp
      replace p0 := hx.cell p0
      replace p1 := hx.cell p1
      replace hE := hE.trans hx
      replace RL := hid (RL.out.ext hx)
      replace R2 := hid (R2.out.ext hx)
      replace R3 := hid (R3.out.ext hx)
      clear hx hl_p0 hl_p1
      go_wp2_with fail
      refine (HSM.out _ _ _ R2.out RL.out).mono ?_
      rintro e z5 ⟨rfl, hx⟩
      replace p0 := hx.cell p0
      replace p1 := hx.cell p1
      replace p2 := hx.cell p2
      replace hE := hE.trans hx
      replace RL := hid (RL.out.ext hx)
      replace R2 := hid (R2.out.ext hx)
      replace R3 := hid (R3.out.ext hx)
      clear hx
      go_wp2_with fail
      refine (HSM.out _ _ _ R3.out RL.out).mono ?_
      rintro e z6 ⟨rfl, hx⟩
      clear p1 p2 R2 R3
      replace p0 := hx.cell p0
      replace hE := hE.trans hx
      replace RL := hid (RL.out.ext hx)
      clear hx
      have HAD := hid (fun w' (h : Rd w' a1 (strsV L)) => AddWord_any a1 c1 L y w' h (by omega) HSZ.out (by have := (long_size HYL.out).2; omega))
      have HHW := hid (fun w' (h : Rd w' a1 (strsV L)) => HasWord_any a1 c1 L y w' h (by omega) HSZ.out)
      cases hh : hasL L y
      · obtain ⟨d1, d2, d3, d4⟩ := added HRI.out h16 HW'.out HYL.out hh
        have e1 : addC L y = 0 := by unfold addC; rw [HOK.out, HYL.out, hh]; simp; omega
        have e2 : addL L y = inAt L (posL L y) y := by unfold addL; rw [if_pos e1]
        have e3 : hasWordB L y = false := by unfold hasWordB; rw [hh, Bool.and_false]
        rw [e1, e2] at HAD
        rw [e3] at HHW
        obtain ⟨A, hA⟩ : ∃ A, inAt L (posL L y) y = A := ⟨_, rfl⟩
        rw [hA] at HAD d1 d2 d3 d4
        have hAl : A.length ≤ 17 := by rw [← hA, inAt_length L _ y (posL_le L y)]; omega
        have hAs : ∀ s ∈ A, s.size ≤ 1048576 := fun s hs => by have := (long_size (lex_word d1 s hs)).2; omega
        have HRM := hid (fun a' c' w' (h : Rd w' a' (strsV A)) => RemoveWord_yes a' c' A y w' h hAs d1 d3)
        rw [d2, d4] at HRM
        have HHA := hid (fun a' c' w' (h : Rd w' a' (strsV A)) => HasWord_any a' c' A y w' h (by omega) hAs)
        rw [show hasWordB A y = true from by unfold hasWordB; rw [d1, d3]; rfl] at HHA
        clear hh e1 e2 e3 hA d1 d2 d3 d4 hAs
        go_wp2_with fail
        refine (HAD.out _ RL.out).mono ?_
        rintro e z7 ⟨a4, c4, rfl, hi4, hx⟩
        have R4 := hid hi4.rd
        clear hi4 HAD
        replace p0 := hx.cell p0
        replace hE := hE.trans hx
        replace RL := hid (RL.out.ext hx)
        clear hx
        have hl_p0 := World.block_lt_of_cell? _ _ p0
        have hx := (Ext.refl z7).alloc (.cells #[.slice a4 A.length c4] 26)
        have p3 : (z7.alloc (.cells #[.slice a4 A.length c4] 26)).cell? ⟨z7.heap.size, 0, none⟩ = some (.slice a4 A.length c4) := by simp
        replace p0 := hx.cell p0
        replace hE := hE.trans hx
        replace RL := hid (RL.out.ext hx)
        replace R4 := hid (R4.out.ext hx)
        clear hx hl_p0
        go_wp2_with fail
        refine (HRM.out _ _ _ R4.out).mono ?_
        rintro e z8 ⟨a5, c5, rfl, hr5, hx⟩
        have R5 := hid hr5
        clear hr5 HRM
        replace p0 := hx.cell p0
        replace p3 := hx.cell p3
        replace hE := hE.trans hx
        replace RL := hid (RL.out.ext hx)
        replace R4 := hid (R4.out.ext hx)
        clear hx
        have hl_p0 := World.block_lt_of_cell? _ _ p0
        have hl_p3 := World.block_lt_of_cell? _ _ p3
        have hx := (Ext.refl z8).alloc (.cells #[.slice a5 L.length c5] 26)
        have p4 : (z8.alloc (.cells #[.slice a5 L.length c5] 26)).cell? ⟨z8.heap.size, 0, none⟩ = some (.slice a5 L.length c5) := by simp
        replace p0 := hx.cell p0
        replace p3 := hx.cell p3
        replace hE := hE.trans hx
        replace RL := hid (RL.out.ext hx)
        replace R4 := hid (R4.out.ext hx)
        replace R5 := hid (R5.out.ext hx)
        clear hx hl_p0 hl_p3
        go_wp2_with fail
        refine (HSM.out _ _ _ R5.out RL.out).mono ?_
        rintro e z9 ⟨rfl, hx⟩
        clear p4 R5
        replace p0 := hx.cell p0
        replace p3 := hx.cell p3
        replace hE := hE.trans hx
        replace RL := hid (RL.out.ext hx)
        replace R4 := hid (R4.out.ext hx)
        clear hx
        go_wp2_with fail
        refine (HHA.out _ _ _ R4.out).mono ?_
        rintro e z10 ⟨rfl, hx⟩
        clear p3 R4
        replace p0 := hx.cell p0
        replace hE := hE.trans hx
        replace RL := hid (RL.out.ext hx)
        clear hx
        go_wp2_with fail
        refine (HHW.out _ RL.out).mono ?_
        rintro e z11 ⟨rfl, hx⟩
        replace p0 := hx.cell p0
        replace hE := hE.trans hx
        replace RL := hid (RL.out.ext hx)
        clear hx
        clear HHW HHA HSM
        have hlen2 : 2 ≤ y.size := (long_size HYL.out).1
        obtain ⟨u, hu⟩ : ∃ u, hdB y = u := ⟨_, rfl⟩
        have HU : Hid (y.extract 0 1 = ⟨#[u]⟩) := hid (by
          obtain ⟨r, e⟩ := hd_cons (s := y) (by omega)
          apply ba_list
          rw [extract_list, e, hu]
          rfl)
        have HPR := hid (fun w' (h : Rd w' a1 (strsV L)) => PrefixRange_yes a1 c1 L ⟨#[u]⟩ w' h HSZ.out HOK.out)
        have HRG := hid (fun i (hi : i < L.length) => range_hd HRI.out HW'.out u i hi)
        have hpl := posL_le L ⟨#[u]⟩
        have hrl := runP_le L ⟨#[u]⟩ (posL L ⟨#[u]⟩)
        obtain ⟨p, hp⟩ : ∃ p, posL L ⟨#[u]⟩ = p := ⟨_, rfl⟩
        rw [hp] at HPR HRG hpl hrl
        obtain ⟨n2, hn2⟩ : ∃ n2, runP L ⟨#[u]⟩ p = n2 := ⟨_, rfl⟩
        rw [hn2] at HPR HRG hrl
        have HHU := hid hu
        have hlen3 : (1 : Int) ≤ (y.size : Int) := by omega
        have f1 : ¬ (p : Int) < 0 := by omega
        have f2 : ¬ (n2 : Int) < 0 := by omega
        have f3 : IntKind.i64.wrap ((p : Int) + n2) = (p : Int) + n2 := IntWalk.i64_in _ (by omega)
        have f4 : ¬ (L.length : Int) < (p : Int) + n2 := by omega
        have f5 : ¬ (100000 : Int) < p := by omega
        have f6 : ¬ (100000 : Int) < n2 := by omega
        clear hp hn2 hu
        go_wp2_with fail
        refine wp_region_flow_at (C := Ext) 11 [fun v _ => v = .agg #[.slice a1 L.length c1], fun v _ => v = .string y, fun v _ => v = .string ⟨#[u]⟩, fun v _ => v = .tuple #[.int .i64 p, .int .i64 n2, .int .i64 0], fun v _ => v = .tuple #[.int .i64 p, .int .i64 n2, .int .i64 0], fun v _ => v = .int .i64 p, fun v _ => v = .int .i64 n2, fun v _ => v = .int .i64 0, fun v _ => v = .int .i64 p, fun v _ => v = .int .i64 n2, fun v _ => v = .int .i64 0]
          [[(5, none)], [(6, none)], [(122, some 1)], [(121, some 0), (123, some 2)], [(124, some 3)], [(120, some 4)], [(120, some 4)], [(120, some 4)], [(125, some 5)], [(126, some 6)], [(127, some 7)]] (by kernel_rfl) (by kernel_rfl) Ext.refl (fun _ _ _ => Ext.trans) ?_ ?_ ?_
        · intro F hF
          simp only [List.mem_cons, List.not_mem_nil, or_false] at hF
          rcases hF with rfl | rfl | rfl | rfl | rfl | rfl | rfl | rfl | rfl | rfl | rfl <;> exact fun _ _ _ h _ => h
        · refine ⟨?_, ?_, ?_, ?_, ?_, ?_, ?_, ?_, ?_, ?_, ?_, trivial⟩
          · rintro ρ w1 hw hcst hfn hk
            have c0 := hw.cell (b := G) (o := 0) (v := .slice a1 L.length c1) (by first | (simp [*]; done) | (simp [*, go_sem]; done) | go_cell)
            clear hw
            simp only [known, List.getD_cons_zero, List.getD_cons_succ, Nat.reduceAdd] at hk
            simp only [List.getD_cons_zero, List.getD_cons_succ, Nat.reduceAdd, flowAt]
            go_simp
            exact ⟨Ext.refl _, by first | rfl | trivial⟩
          · rintro ρ w1 hw hcst hfn hk
            clear hw
            simp only [known, List.getD_cons_zero, List.getD_cons_succ, Nat.reduceAdd] at hk
            simp only [List.getD_cons_zero, List.getD_cons_succ, Nat.reduceAdd, flowAt]
            go_simp
            exact ⟨Ext.refl _, by first | rfl | trivial⟩
          · rintro ρ w1 hw hcst hfn hk
            simp only [known, List.getD_cons_zero, List.getD_cons_succ, Nat.reduceAdd] at hk
            simp only [List.getD_cons_zero, List.getD_cons_succ, Nat.reduceAdd, flowAt]
            go_simp
            exact ⟨Ext.refl _, by rw [HU.out]⟩
          · rintro ρ w1 hw hcst hfn hk
            simp only [known, List.getD_cons_zero, List.getD_cons_succ, Nat.reduceAdd] at hk
            simp only [List.getD_cons_zero, List.getD_cons_succ, Nat.reduceAdd, flowAt]
            go_simp
            exact flow_ret (HPR.out _ (RL.out.ext ((Ext.refl _).drew.trans hw)))
          · rintro ρ w1 hw hcst hfn hk
            clear hw
            simp only [known, List.getD_cons_zero, List.getD_cons_succ, Nat.reduceAdd] at hk
            simp only [List.getD_cons_zero, List.getD_cons_succ, Nat.reduceAdd, flowAt]
            go_simp
            exact ⟨Ext.refl _, by first | rfl | trivial⟩
          · rintro ρ w1 hw hcst hfn hk
            clear hw
            simp only [known, List.getD_cons_zero, List.getD_cons_succ, Nat.reduceAdd] at hk
            simp only [List.getD_cons_zero, List.getD_cons_succ, Nat.reduceAdd, flowAt]
            go_simp
            exact ⟨Ext.refl _, by first | rfl | trivial⟩
          · rintro ρ w1 hw hcst hfn hk
            clear hw
            simp only [known, List.getD_cons_zero, List.getD_cons_succ, Nat.reduceAdd] at hk
            simp only [List.getD_cons_zero, List.getD_cons_succ, Nat.reduceAdd, flowAt]
            go_simp
            exact ⟨Ext.refl _, by first | rfl | trivial⟩
          · rintro ρ w1 hw hcst hfn hk
            clear hw
            simp only [known, List.getD_cons_zero, List.getD_cons_succ, Nat.reduceAdd] at hk
            simp only [List.getD_cons_zero, List.getD_cons_succ, Nat.reduceAdd, flowAt]
            go_simp
            exact ⟨Ext.refl _, by first | rfl | trivial⟩
          · rintro ρ w1 hw hcst hfn hk
            clear hw
            simp only [known, List.getD_cons_zero, List.getD_cons_succ, Nat.reduceAdd] at hk
            simp only [List.getD_cons_zero, List.getD_cons_succ, Nat.reduceAdd, flowAt]
            go_simp
            exact ⟨Ext.refl _, by first | rfl | trivial⟩
          · rintro ρ w1 hw hcst hfn hk
            clear hw
            simp only [known, List.getD_cons_zero, List.getD_cons_succ, Nat.reduceAdd] at hk
            simp only [List.getD_cons_zero, List.getD_cons_succ, Nat.reduceAdd, flowAt]
            go_simp
            exact ⟨Ext.refl _, by first | rfl | trivial⟩
          · rintro ρ w1 hw hcst hfn hk
            clear hw
            simp only [known, List.getD_cons_zero, List.getD_cons_succ, Nat.reduceAdd] at hk
            simp only [List.getD_cons_zero, List.getD_cons_succ, Nat.reduceAdd, flowAt]
            go_simp
            exact ⟨Ext.refl _, by first | rfl | trivial⟩
        intro vs w1 hw hf
        simp only [flowFacts, Nat.reduceAdd] at hf
        obtain ⟨e0, e1, e2, e3, e4, e5, e6, e7, e8, e9, e10, -⟩ := hf
        simp only [List.take_succ_cons, List.take_zero, List.drop_succ_cons, List.drop_zero, putAll, Act.put, Nat.reduceAdd, List.setIfInBounds_toArray, List.set_cons_zero, List.set_cons_succ, e0, e1, e2, e3, e4, e5, e6, e7, e8, e9, e10]
        clear e0 e1 e2 e3 e4 e5 e6 e7 e8 e9 e10
        have hx := (Ext.refl _).drew.trans hw
        replace p0 := hx.cell p0
        replace hE := hE.trans hx
        replace RL := hid (RL.out.ext hx)
        clear hx hw HPR
        have HK0 := hid (show Ext w w1 ∧ w1.cell? ⟨G, 0, none⟩ = some (.slice a1 L.length c1) ∧ Rd w1 a1 (strsV L) from ⟨hE, p0, RL.out⟩)
        clear hE RL
        go_wp2_with fail
        clear p0
        go_loopw [20] (fun i wr => ∃ k : Nat, k ≤ L.length ∧ i = .int .i64 k ∧ Hid (Ext w wr ∧ wr.cell? ⟨G, 0, none⟩ = some (.slice a1 L.length c1) ∧ Rd wr a1 (strsV L))) (fun i _ => L.length - (intOf i).toNat)
        case atStart => exact ⟨0, by omega, rfl, HK0⟩
        case round =>
          clear HK0
          obtain ⟨k, hk, rfl, HK⟩ := hrel
          obtain ⟨hE, p0, hrl2⟩ := HK.out
          have RL := hid hrl2
          clear HK hrl2
          by_cases hlt : k < L.length
          · obtain ⟨g1, o1, rfl, hc⟩ := RL.out.word (by omega)
            have ck := hc k hlt
            have HRk := hid (HRG.out k hlt)
            have hs2 := (long_size (HW'.out _ (wAt_mem L k hlt))).1
            obtain ⟨s, hs⟩ : ∃ s, wAt L k = s := ⟨_, rfl⟩
            rw [hs] at ck HRk hs2
            obtain ⟨q, hq⟩ : ∃ q, o1 + k = q := ⟨_, rfl⟩
            rw [hq] at ck
            have hs3 : (0 : Int) < (s.size : Int) := by omega
            have hs4 : 0 < s.size := by omega
            have hy3 : (0 : Int) < (y.size : Int) := by omega
            have hy4 : 0 < y.size := by omega
            have HV0 := hid (bAt_eq s 0 hs4)
            have HY0 : Hid (y[0] = u) := hid (by rw [bAt_eq y 0 hy4]; exact HHU.out)
            obtain ⟨bt, hbt⟩ : ∃ bt, hdB s = bt := ⟨_, rfl⟩
            have HV : Hid (s[0] = bt) := hid (by rw [HV0.out]; exact hbt)
            rw [hbt] at HRk
            have hkl : (k : Int) < L.length := by omega
            clear hc hs hbt HV0
            by_cases hin : (p : Int) ≤ k
            · by_cases hin2 : (k : Int) < (p : Int) + n2
              · obtain rfl : bt = u := HRk.out.2 ⟨by omega, by omega⟩
                have hne : ((bt.toNat : Int) == bt.toNat) = true := by simp
                go_wp2_with fail
                refine wp_region_flow_at (C := Ext) 20 [fun v _ => v = .pointer (some ⟨G, 0, none⟩), fun v _ => v = .slice (some ⟨g1, o1, none⟩) L.length c1, fun v _ => v = .int .i64 (k : Int), fun v _ => v = .pointer (some ⟨g1, q, none⟩), fun v _ => v = .string s, fun v _ => v = .int .u8 (bt.toNat : Int), fun v _ => v = .string y, fun v _ => v = .int .u8 (bt.toNat : Int), fun v _ => v = .bool true, fun v _ => v = .int .i64 (k : Int), fun v _ => v = .int .i64 (p : Int), fun v _ => v = .bool true, fun v _ => v = .bool true, fun v _ => v = .int .i64 (k : Int), fun v _ => v = .int .i64 (p : Int), fun v _ => v = .int .i64 (n2 : Int), fun v _ => v = .int .i64 ((p : Int) + n2), fun v _ => v = .bool true, fun v _ => v = .bool true, fun v _ => v = .bool false]
                  [[(5, none)], [(162, some 0)], [(20, none)], [(163, some 1), (164, some 2)], [(165, some 3)], [(166, some 4)], [(6, none)], [(168, some 6)], [(167, some 5), (169, some 7)], [(20, none)], [(17, none)], [(171, some 9), (172, some 10)], [(173, some 11)], [(20, none)], [(17, none)], [(18, none)], [(176, some 14), (177, some 15)], [(175, some 13), (178, some 16)], [(174, some 12), (179, some 17)], [(170, some 8), (180, some 18)]] (by kernel_rfl) (by kernel_rfl) Ext.refl (fun _ _ _ => Ext.trans) ?_ ?_ ?_
                · intro F hF
                  simp only [List.mem_cons, List.not_mem_nil, or_false] at hF
                  rcases hF with rfl | rfl | rfl | rfl | rfl | rfl | rfl | rfl | rfl | rfl | rfl | rfl | rfl | rfl | rfl | rfl | rfl | rfl | rfl | rfl <;> exact fun _ _ _ h _ => h
                · refine ⟨?_, ?_, ?_, ?_, ?_, ?_, ?_, ?_, ?_, ?_, ?_, ?_, ?_, ?_, ?_, ?_, ?_, ?_, ?_, ?_, trivial⟩
                  · rintro ρ w1 hw hcst hfn hk
                    clear hw
                    simp only [known, List.getD_cons_zero, List.getD_cons_succ, Nat.reduceAdd] at hk
                    simp only [List.getD_cons_zero, List.getD_cons_succ, Nat.reduceAdd, flowAt]
                    go_simp
                    exact ⟨Ext.refl _, by first | rfl | trivial⟩
                  · rintro ρ w1 hw hcst hfn hk
                    have c0 := hw.cell (b := G) (o := 0) (v := .slice (some ⟨g1, o1, none⟩) L.length c1) (by first | (simp [*]; done) | (simp [*, go_sem]; done) | go_cell)
                    clear hw
                    simp only [known, List.getD_cons_zero, List.getD_cons_succ, Nat.reduceAdd] at hk
                    simp only [List.getD_cons_zero, List.getD_cons_succ, Nat.reduceAdd, flowAt]
                    go_simp
                    exact ⟨Ext.refl _, by first | rfl | trivial⟩
                  · rintro ρ w1 hw hcst hfn hk
                    clear hw
                    simp only [known, List.getD_cons_zero, List.getD_cons_succ, Nat.reduceAdd] at hk
                    simp only [List.getD_cons_zero, List.getD_cons_succ, Nat.reduceAdd, flowAt]
                    go_simp
                    exact ⟨Ext.refl _, by first | rfl | trivial⟩
                  · rintro ρ w1 hw hcst hfn hk
                    simp only [known, List.getD_cons_zero, List.getD_cons_succ, Nat.reduceAdd] at hk
                    simp only [List.getD_cons_zero, List.getD_cons_succ, Nat.reduceAdd, flowAt]
                    go_simp
                    exact ⟨Ext.refl _, by first | rfl | rw [hq]⟩
                  · rintro ρ w1 hw hcst hfn hk
                    have c0 := hw.cell (b := g1) (o := q) (v := .string s) (by first | (simp [*]; done) | (simp [*, go_sem]; done) | go_cell)
                    clear hw
                    simp only [known, List.getD_cons_zero, List.getD_cons_succ, Nat.reduceAdd] at hk
                    simp only [List.getD_cons_zero, List.getD_cons_succ, Nat.reduceAdd, flowAt]
                    go_simp
                    exact ⟨Ext.refl _, by first | rfl | trivial⟩
                  · rintro ρ w1 hw hcst hfn hk
                    simp only [known, List.getD_cons_zero, List.getD_cons_succ, Nat.reduceAdd] at hk
                    simp only [List.getD_cons_zero, List.getD_cons_succ, Nat.reduceAdd, flowAt]
                    go_simp
                    exact ⟨Ext.refl _, by first | rfl | rw [HV.out]⟩
                  · rintro ρ w1 hw hcst hfn hk
                    clear hw
                    simp only [known, List.getD_cons_zero, List.getD_cons_succ, Nat.reduceAdd] at hk
                    simp only [List.getD_cons_zero, List.getD_cons_succ, Nat.reduceAdd, flowAt]
                    go_simp
                    exact ⟨Ext.refl _, by first | rfl | trivial⟩
                  · rintro ρ w1 hw hcst hfn hk
                    simp only [known, List.getD_cons_zero, List.getD_cons_succ, Nat.reduceAdd] at hk
                    simp only [List.getD_cons_zero, List.getD_cons_succ, Nat.reduceAdd, flowAt]
                    go_simp
                    exact ⟨Ext.refl _, by first | rfl | rw [HY0.out]⟩
                  · rintro ρ w1 hw hcst hfn hk
                    simp only [known, List.getD_cons_zero, List.getD_cons_succ, Nat.reduceAdd] at hk
                    simp only [List.getD_cons_zero, List.getD_cons_succ, Nat.reduceAdd, flowAt]
                    go_simp
                    exact ⟨Ext.refl _, by first | rfl | trivial | rw [hne] | simp [hne]⟩
                  · rintro ρ w1 hw hcst hfn hk
                    clear hw
                    simp only [known, List.getD_cons_zero, List.getD_cons_succ, Nat.reduceAdd] at hk
                    simp only [List.getD_cons_zero, List.getD_cons_succ, Nat.reduceAdd, flowAt]
                    go_simp
                    exact ⟨Ext.refl _, by first | rfl | trivial⟩
                  · rintro ρ w1 hw hcst hfn hk
                    clear hw
                    simp only [known, List.getD_cons_zero, List.getD_cons_succ, Nat.reduceAdd] at hk
                    simp only [List.getD_cons_zero, List.getD_cons_succ, Nat.reduceAdd, flowAt]
                    go_simp
                    exact ⟨Ext.refl _, by first | rfl | trivial⟩
                  · rintro ρ w1 hw hcst hfn hk
                    simp only [known, List.getD_cons_zero, List.getD_cons_succ, Nat.reduceAdd] at hk
                    simp only [List.getD_cons_zero, List.getD_cons_succ, Nat.reduceAdd, flowAt]
                    go_simp
                    exact ⟨Ext.refl _, by first | rfl | trivial | (simp [hin]; done) | (simp; omega)⟩
                  · rintro ρ w1 hw hcst hfn hk
                    clear hw
                    simp only [known, List.getD_cons_zero, List.getD_cons_succ, Nat.reduceAdd] at hk
                    simp only [List.getD_cons_zero, List.getD_cons_succ, Nat.reduceAdd, flowAt]
                    go_simp
                    exact ⟨Ext.refl _, by first | rfl | trivial⟩
                  · rintro ρ w1 hw hcst hfn hk
                    clear hw
                    simp only [known, List.getD_cons_zero, List.getD_cons_succ, Nat.reduceAdd] at hk
                    simp only [List.getD_cons_zero, List.getD_cons_succ, Nat.reduceAdd, flowAt]
                    rintro vg rfl
                    refine ⟨fun hg => ?_, fun hg => ?_⟩ <;> simp at hg
                    go_simp
                    exact ⟨Ext.refl _, by first | rfl | trivial⟩
                  · rintro ρ w1 hw hcst hfn hk
                    clear hw
                    simp only [known, List.getD_cons_zero, List.getD_cons_succ, Nat.reduceAdd] at hk
                    simp only [List.getD_cons_zero, List.getD_cons_succ, Nat.reduceAdd, flowAt]
                    rintro vg rfl
                    refine ⟨fun hg => ?_, fun hg => ?_⟩ <;> simp at hg
                    go_simp
                    exact ⟨Ext.refl _, by first | rfl | trivial⟩
                  · rintro ρ w1 hw hcst hfn hk
                    clear hw
                    simp only [known, List.getD_cons_zero, List.getD_cons_succ, Nat.reduceAdd] at hk
                    simp only [List.getD_cons_zero, List.getD_cons_succ, Nat.reduceAdd, flowAt]
                    rintro vg rfl
                    refine ⟨fun hg => ?_, fun hg => ?_⟩ <;> simp at hg
                    go_simp
                    exact ⟨Ext.refl _, by first | rfl | trivial⟩
                  · rintro ρ w1 hw hcst hfn hk
                    simp only [known, List.getD_cons_zero, List.getD_cons_succ, Nat.reduceAdd] at hk
                    simp only [List.getD_cons_zero, List.getD_cons_succ, Nat.reduceAdd, flowAt]
                    rintro vg rfl
                    refine ⟨fun hg => ?_, fun hg => ?_⟩ <;> simp at hg
                    go_simp
                    exact ⟨Ext.refl _, by first | rfl | rw [f3]⟩
                  · rintro ρ w1 hw hcst hfn hk
                    simp only [known, List.getD_cons_zero, List.getD_cons_succ, Nat.reduceAdd] at hk
                    simp only [List.getD_cons_zero, List.getD_cons_succ, Nat.reduceAdd, flowAt]
                    rintro vg rfl
                    refine ⟨fun hg => ?_, fun hg => ?_⟩ <;> simp at hg
                    go_simp
                    exact ⟨Ext.refl _, by first | rfl | trivial | (simp [hin2]; done) | (simp; omega)⟩
                  · rintro ρ w1 hw hcst hfn hk
                    clear hw
                    simp only [known, List.getD_cons_zero, List.getD_cons_succ, Nat.reduceAdd] at hk
                    simp only [List.getD_cons_zero, List.getD_cons_succ, Nat.reduceAdd, flowAt]
                    go_simp
                    exact ⟨Ext.refl _, by first | rfl | trivial⟩
                  · rintro ρ w1 hw hcst hfn hk
                    clear hw
                    simp only [known, List.getD_cons_zero, List.getD_cons_succ, Nat.reduceAdd] at hk
                    simp only [List.getD_cons_zero, List.getD_cons_succ, Nat.reduceAdd, flowAt]
                    go_simp
                    exact ⟨Ext.refl _, by first | rfl | trivial⟩
                intro vs w1 hw hf
                simp only [flowFacts, Nat.reduceAdd] at hf
                obtain ⟨e0, e1, e2, e3, e4, e5, e6, e7, e8, e9, e10, e11, e12, e13, e14, e15, e16, e17, e18, e19, -⟩ := hf
                simp only [List.take_succ_cons, List.take_zero, List.drop_succ_cons, List.drop_zero, putAll, Act.put, Nat.reduceAdd, List.setIfInBounds_toArray, List.set_cons_zero, List.set_cons_succ, e0, e1, e2, e3, e4, e5, e6, e7, e8, e9, e10, e11, e12, e13, e14, e15, e16, e17, e18, e19]
                clear e0 e1 e2 e3 e4 e5 e6 e7 e8 e9 e10 e11 e12 e13 e14 e15 e16 e17 e18 e19
                have hx := (Ext.refl _).drew.trans hw
                replace p0 := hx.cell p0
                replace hE := hE.trans hx
                replace RL := hid (RL.out.ext hx)
                clear hx hw
                go_wp2_with fail
                go_roundw
                case rel => exact ⟨k + 1, by omega, by go_num, hid ⟨hE, p0, RL.out⟩⟩
                case measure => first | (simp [intOf]; done) | (simp [intOf]; omega)
              · have hvu : bt ≠ u := fun e => by have := (HRk.out.1 e).2; omega
                have hne : ((bt.toNat : Int) == u.toNat) = false := by
                  rw [beq_eq_false_iff_ne]
                  intro e
                  exact hvu (UInt8.toNat_inj.1 (by omega))
                clear hvu
                go_wp2_with fail
                refine wp_region_flow_at (C := Ext) 20 [fun v _ => v = .pointer (some ⟨G, 0, none⟩), fun v _ => v = .slice (some ⟨g1, o1, none⟩) L.length c1, fun v _ => v = .int .i64 (k : Int), fun v _ => v = .pointer (some ⟨g1, q, none⟩), fun v _ => v = .string s, fun v _ => v = .int .u8 (bt.toNat : Int), fun v _ => v = .string y, fun v _ => v = .int .u8 (u.toNat : Int), fun v _ => v = .bool false, fun v _ => v = .int .i64 (k : Int), fun v _ => v = .int .i64 (p : Int), fun v _ => v = .bool true, fun v _ => v = .bool true, fun v _ => v = .int .i64 (k : Int), fun v _ => v = .int .i64 (p : Int), fun v _ => v = .int .i64 (n2 : Int), fun v _ => v = .int .i64 ((p : Int) + n2), fun v _ => v = .bool false, fun v _ => v = .bool false, fun v _ => v = .bool false]
                  [[(5, none)], [(162, some 0)], [(20, none)], [(163, some 1), (164, some 2)], [(165, some 3)], [(166, some 4)], [(6, none)], [(168, some 6)], [(167, some 5), (169, some 7)], [(20, none)], [(17, none)], [(171, some 9), (172, some 10)], [(173, some 11)], [(20, none)], [(17, none)], [(18, none)], [(176, some 14), (177, some 15)], [(175, some 13), (178, some 16)], [(174, some 12), (179, some 17)], [(170, some 8), (180, some 18)]] (by kernel_rfl) (by kernel_rfl) Ext.refl (fun _ _ _ => Ext.trans) ?_ ?_ ?_
                · intro F hF
                  simp only [List.mem_cons, List.not_mem_nil, or_false] at hF
                  rcases hF with rfl | rfl | rfl | rfl | rfl | rfl | rfl | rfl | rfl | rfl | rfl | rfl | rfl | rfl | rfl | rfl | rfl | rfl | rfl | rfl <;> exact fun _ _ _ h _ => h
                · refine ⟨?_, ?_, ?_, ?_, ?_, ?_, ?_, ?_, ?_, ?_, ?_, ?_, ?_, ?_, ?_, ?_, ?_, ?_, ?_, ?_, trivial⟩
                  · rintro ρ w1 hw hcst hfn hk
                    clear hw
                    simp only [known, List.getD_cons_zero, List.getD_cons_succ, Nat.reduceAdd] at hk
                    simp only [List.getD_cons_zero, List.getD_cons_succ, Nat.reduceAdd, flowAt]
                    go_simp
                    exact ⟨Ext.refl _, by first | rfl | trivial⟩
                  · rintro ρ w1 hw hcst hfn hk
                    have c0 := hw.cell (b := G) (o := 0) (v := .slice (some ⟨g1, o1, none⟩) L.length c1) (by first | (simp [*]; done) | (simp [*, go_sem]; done) | go_cell)
                    clear hw
                    simp only [known, List.getD_cons_zero, List.getD_cons_succ, Nat.reduceAdd] at hk
                    simp only [List.getD_cons_zero, List.getD_cons_succ, Nat.reduceAdd, flowAt]
                    go_simp
                    exact ⟨Ext.refl _, by first | rfl | trivial⟩
                  · rintro ρ w1 hw hcst hfn hk
                    clear hw
                    simp only [known, List.getD_cons_zero, List.getD_cons_succ, Nat.reduceAdd] at hk
                    simp only [List.getD_cons_zero, List.getD_cons_succ, Nat.reduceAdd, flowAt]
                    go_simp
                    exact ⟨Ext.refl _, by first | rfl | trivial⟩
                  · rintro ρ w1 hw hcst hfn hk
                    simp only [known, List.getD_cons_zero, List.getD_cons_succ, Nat.reduceAdd] at hk
                    simp only [List.getD_cons_zero, List.getD_cons_succ, Nat.reduceAdd, flowAt]
                    go_simp
                    exact ⟨Ext.refl _, by first | rfl | rw [hq]⟩
                  · rintro ρ w1 hw hcst hfn hk
                    have c0 := hw.cell (b := g1) (o := q) (v := .string s) (by first | (simp [*]; done) | (simp [*, go_sem]; done) | go_cell)
                    clear hw
                    simp only [known, List.getD_cons_zero, List.getD_cons_succ, Nat.reduceAdd] at hk
                    simp only [List.getD_cons_zero, List.getD_cons_succ, Nat.reduceAdd, flowAt]
                    go_simp
                    exact ⟨Ext.refl _, by first | rfl | trivial⟩
                  · rintro ρ w1 hw hcst hfn hk
                    simp only [known, List.getD_cons_zero, List.getD_cons_succ, Nat.reduceAdd] at hk
                    simp only [List.getD_cons_zero, List.getD_cons_succ, Nat.reduceAdd, flowAt]
                    go_simp
                    exact ⟨Ext.refl _, by first | rfl | rw [HV.out]⟩
                  · rintro ρ w1 hw hcst hfn hk
                    clear hw
                    simp only [known, List.getD_cons_zero, List.getD_cons_succ, Nat.reduceAdd] at hk
                    simp only [List.getD_cons_zero, List.getD_cons_succ, Nat.reduceAdd, flowAt]
                    go_simp
                    exact ⟨Ext.refl _, by first | rfl | trivial⟩
                  · rintro ρ w1 hw hcst hfn hk
                    simp only [known, List.getD_cons_zero, List.getD_cons_succ, Nat.reduceAdd] at hk
                    simp only [List.getD_cons_zero, List.getD_cons_succ, Nat.reduceAdd, flowAt]
                    go_simp
                    exact ⟨Ext.refl _, by first | rfl | rw [HY0.out]⟩
                  · rintro ρ w1 hw hcst hfn hk
                    simp only [known, List.getD_cons_zero, List.getD_cons_succ, Nat.reduceAdd] at hk
                    simp only [List.getD_cons_zero, List.getD_cons_succ, Nat.reduceAdd, flowAt]
                    go_simp
                    exact ⟨Ext.refl _, by first | rfl | trivial | rw [hne] | simp [hne]⟩
                  · rintro ρ w1 hw hcst hfn hk
                    clear hw
                    simp only [known, List.getD_cons_zero, List.getD_cons_succ, Nat.reduceAdd] at hk
                    simp only [List.getD_cons_zero, List.getD_cons_succ, Nat.reduceAdd, flowAt]
                    go_simp
                    exact ⟨Ext.refl _, by first | rfl | trivial⟩
                  · rintro ρ w1 hw hcst hfn hk
                    clear hw
                    simp only [known, List.getD_cons_zero, List.getD_cons_succ, Nat.reduceAdd] at hk
                    simp only [List.getD_cons_zero, List.getD_cons_succ, Nat.reduceAdd, flowAt]
                    go_simp
                    exact ⟨Ext.refl _, by first | rfl | trivial⟩
                  · rintro ρ w1 hw hcst hfn hk
                    simp only [known, List.getD_cons_zero, List.getD_cons_succ, Nat.reduceAdd] at hk
                    simp only [List.getD_cons_zero, List.getD_cons_succ, Nat.reduceAdd, flowAt]
                    go_simp
                    exact ⟨Ext.refl _, by first | rfl | trivial | (simp [hin]; done) | (simp; omega)⟩
                  · rintro ρ w1 hw hcst hfn hk
                    clear hw
                    simp only [known, List.getD_cons_zero, List.getD_cons_succ, Nat.reduceAdd] at hk
                    simp only [List.getD_cons_zero, List.getD_cons_succ, Nat.reduceAdd, flowAt]
                    go_simp
                    exact ⟨Ext.refl _, by first | rfl | trivial⟩
                  · rintro ρ w1 hw hcst hfn hk
                    clear hw
                    simp only [known, List.getD_cons_zero, List.getD_cons_succ, Nat.reduceAdd] at hk
                    simp only [List.getD_cons_zero, List.getD_cons_succ, Nat.reduceAdd, flowAt]
                    rintro vg rfl
                    refine ⟨fun hg => ?_, fun hg => ?_⟩ <;> simp at hg
                    go_simp
                    exact ⟨Ext.refl _, by first | rfl | trivial⟩
                  · rintro ρ w1 hw hcst hfn hk
                    clear hw
                    simp only [known, List.getD_cons_zero, List.getD_cons_succ, Nat.reduceAdd] at hk
                    simp only [List.getD_cons_zero, List.getD_cons_succ, Nat.reduceAdd, flowAt]
                    rintro vg rfl
                    refine ⟨fun hg => ?_, fun hg => ?_⟩ <;> simp at hg
                    go_simp
                    exact ⟨Ext.refl _, by first | rfl | trivial⟩
                  · rintro ρ w1 hw hcst hfn hk
                    clear hw
                    simp only [known, List.getD_cons_zero, List.getD_cons_succ, Nat.reduceAdd] at hk
                    simp only [List.getD_cons_zero, List.getD_cons_succ, Nat.reduceAdd, flowAt]
                    rintro vg rfl
                    refine ⟨fun hg => ?_, fun hg => ?_⟩ <;> simp at hg
                    go_simp
                    exact ⟨Ext.refl _, by first | rfl | trivial⟩
                  · rintro ρ w1 hw hcst hfn hk
                    simp only [known, List.getD_cons_zero, List.getD_cons_succ, Nat.reduceAdd] at hk
                    simp only [List.getD_cons_zero, List.getD_cons_succ, Nat.reduceAdd, flowAt]
                    rintro vg rfl
                    refine ⟨fun hg => ?_, fun hg => ?_⟩ <;> simp at hg
                    go_simp
                    exact ⟨Ext.refl _, by first | rfl | rw [f3]⟩
                  · rintro ρ w1 hw hcst hfn hk
                    simp only [known, List.getD_cons_zero, List.getD_cons_succ, Nat.reduceAdd] at hk
                    simp only [List.getD_cons_zero, List.getD_cons_succ, Nat.reduceAdd, flowAt]
                    rintro vg rfl
                    refine ⟨fun hg => ?_, fun hg => ?_⟩ <;> simp at hg
                    go_simp
                    exact ⟨Ext.refl _, by first | rfl | trivial | (simp [hin2]; done) | (simp; omega)⟩
                  · rintro ρ w1 hw hcst hfn hk
                    clear hw
                    simp only [known, List.getD_cons_zero, List.getD_cons_succ, Nat.reduceAdd] at hk
                    simp only [List.getD_cons_zero, List.getD_cons_succ, Nat.reduceAdd, flowAt]
                    go_simp
                    exact ⟨Ext.refl _, by first | rfl | trivial⟩
                  · rintro ρ w1 hw hcst hfn hk
                    clear hw
                    simp only [known, List.getD_cons_zero, List.getD_cons_succ, Nat.reduceAdd] at hk
                    simp only [List.getD_cons_zero, List.getD_cons_succ, Nat.reduceAdd, flowAt]
                    go_simp
                    exact ⟨Ext.refl _, by first | rfl | trivial⟩
                intro vs w1 hw hf
                simp only [flowFacts, Nat.reduceAdd] at hf
                obtain ⟨e0, e1, e2, e3, e4, e5, e6, e7, e8, e9, e10, e11, e12, e13, e14, e15, e16, e17, e18, e19, -⟩ := hf
                simp only [List.take_succ_cons, List.take_zero, List.drop_succ_cons, List.drop_zero, putAll, Act.put, Nat.reduceAdd, List.setIfInBounds_toArray, List.set_cons_zero, List.set_cons_succ, e0, e1, e2, e3, e4, e5, e6, e7, e8, e9, e10, e11, e12, e13, e14, e15, e16, e17, e18, e19]
                clear e0 e1 e2 e3 e4 e5 e6 e7 e8 e9 e10 e11 e12 e13 e14 e15 e16 e17 e18 e19
                have hx := (Ext.refl _).drew.trans hw
                replace p0 := hx.cell p0
                replace hE := hE.trans hx
                replace RL := hid (RL.out.ext hx)
                clear hx hw
                go_wp2_with fail
                go_roundw
                case rel => exact ⟨k + 1, by omega, by go_num, hid ⟨hE, p0, RL.out⟩⟩
                case measure => first | (simp [intOf]; done) | (simp [intOf]; omega)
            · have hvu : bt ≠ u := fun e => by have := (HRk.out.1 e).1; omega
              have hne : ((bt.toNat : Int) == u.toNat) = false := by
                rw [beq_eq_false_iff_ne]
                intro e
                exact hvu (UInt8.toNat_inj.1 (by omega))
              clear hvu
              go_wp2_with fail
              refine wp_region_flow_at (C := Ext) 20 [fun v _ => v = .pointer (some ⟨G, 0, none⟩), fun v _ => v = .slice (some ⟨g1, o1, none⟩) L.length c1, fun v _ => v = .int .i64 (k : Int), fun v _ => v = .pointer (some ⟨g1, q, none⟩), fun v _ => v = .string s, fun v _ => v = .int .u8 (bt.toNat : Int), fun v _ => v = .string y, fun v _ => v = .int .u8 (u.toNat : Int), fun v _ => v = .bool false, fun v _ => v = .int .i64 (k : Int), fun v _ => v = .int .i64 (p : Int), fun v _ => v = .bool false, fun v _ => v = .bool false, fun v _ => v = undef, fun v _ => v = undef, fun v _ => v = undef, fun v _ => v = undef, fun v _ => v = undef, fun v _ => v = .bool false, fun v _ => v = .bool false]
                [[(5, none)], [(162, some 0)], [(20, none)], [(163, some 1), (164, some 2)], [(165, some 3)], [(166, some 4)], [(6, none)], [(168, some 6)], [(167, some 5), (169, some 7)], [(20, none)], [(17, none)], [(171, some 9), (172, some 10)], [(173, some 11)], [(20, none)], [(17, none)], [(18, none)], [(176, some 14), (177, some 15)], [(175, some 13), (178, some 16)], [(174, some 12), (179, some 17)], [(170, some 8), (180, some 18)]] (by kernel_rfl) (by kernel_rfl) Ext.refl (fun _ _ _ => Ext.trans) ?_ ?_ ?_
              · intro F hF
                simp only [List.mem_cons, List.not_mem_nil, or_false] at hF
                rcases hF with rfl | rfl | rfl | rfl | rfl | rfl | rfl | rfl | rfl | rfl | rfl | rfl | rfl | rfl | rfl | rfl | rfl | rfl | rfl | rfl <;> exact fun _ _ _ h _ => h
              · refine ⟨?_, ?_, ?_, ?_, ?_, ?_, ?_, ?_, ?_, ?_, ?_, ?_, ?_, ?_, ?_, ?_, ?_, ?_, ?_, ?_, trivial⟩
                · rintro ρ w1 hw hcst hfn hk
                  clear hw
                  simp only [known, List.getD_cons_zero, List.getD_cons_succ, Nat.reduceAdd] at hk
                  simp only [List.getD_cons_zero, List.getD_cons_succ, Nat.reduceAdd, flowAt]
                  go_simp
                  exact ⟨Ext.refl _, by first | rfl | trivial⟩
                · rintro ρ w1 hw hcst hfn hk
                  have c0 := hw.cell (b := G) (o := 0) (v := .slice (some ⟨g1, o1, none⟩) L.length c1) (by first | (simp [*]; done) | (simp [*, go_sem]; done) | go_cell)
                  clear hw
                  simp only [known, List.getD_cons_zero, List.getD_cons_succ, Nat.reduceAdd] at hk
                  simp only [List.getD_cons_zero, List.getD_cons_succ, Nat.reduceAdd, flowAt]
                  go_simp
                  exact ⟨Ext.refl _, by first | rfl | trivial⟩
                · rintro ρ w1 hw hcst hfn hk
                  clear hw
                  simp only [known, List.getD_cons_zero, List.getD_cons_succ, Nat.reduceAdd] at hk
                  simp only [List.getD_cons_zero, List.getD_cons_succ, Nat.reduceAdd, flowAt]
                  go_simp
                  exact ⟨Ext.refl _, by first | rfl | trivial⟩
                · rintro ρ w1 hw hcst hfn hk
                  simp only [known, List.getD_cons_zero, List.getD_cons_succ, Nat.reduceAdd] at hk
                  simp only [List.getD_cons_zero, List.getD_cons_succ, Nat.reduceAdd, flowAt]
                  go_simp
                  exact ⟨Ext.refl _, by first | rfl | rw [hq]⟩
                · rintro ρ w1 hw hcst hfn hk
                  have c0 := hw.cell (b := g1) (o := q) (v := .string s) (by first | (simp [*]; done) | (simp [*, go_sem]; done) | go_cell)
                  clear hw
                  simp only [known, List.getD_cons_zero, List.getD_cons_succ, Nat.reduceAdd] at hk
                  simp only [List.getD_cons_zero, List.getD_cons_succ, Nat.reduceAdd, flowAt]
                  go_simp
                  exact ⟨Ext.refl _, by first | rfl | trivial⟩
                · rintro ρ w1 hw hcst hfn hk
                  simp only [known, List.getD_cons_zero, List.getD_cons_succ, Nat.reduceAdd] at hk
                  simp only [List.getD_cons_zero, List.getD_cons_succ, Nat.reduceAdd, flowAt]
                  go_simp
                  exact ⟨Ext.refl _, by first | rfl | rw [HV.out]⟩
                · rintro ρ w1 hw hcst hfn hk
                  clear hw
                  simp only [known, List.getD_cons_zero, List.getD_cons_succ, Nat.reduceAdd] at hk
                  simp only [List.getD_cons_zero, List.getD_cons_succ, Nat.reduceAdd, flowAt]
                  go_simp
                  exact ⟨Ext.refl _, by first | rfl | trivial⟩
                · rintro ρ w1 hw hcst hfn hk
                  simp only [known, List.getD_cons_zero, List.getD_cons_succ, Nat.reduceAdd] at hk
                  simp only [List.getD_cons_zero, List.getD_cons_succ, Nat.reduceAdd, flowAt]
                  go_simp
                  exact ⟨Ext.refl _, by first | rfl | rw [HY0.out]⟩
                · rintro ρ w1 hw hcst hfn hk
                  simp only [known, List.getD_cons_zero, List.getD_cons_succ, Nat.reduceAdd] at hk
                  simp only [List.getD_cons_zero, List.getD_cons_succ, Nat.reduceAdd, flowAt]
                  go_simp
                  exact ⟨Ext.refl _, by first | rfl | trivial | rw [hne] | simp [hne]⟩
                · rintro ρ w1 hw hcst hfn hk
                  clear hw
                  simp only [known, List.getD_cons_zero, List.getD_cons_succ, Nat.reduceAdd] at hk
                  simp only [List.getD_cons_zero, List.getD_cons_succ, Nat.reduceAdd, flowAt]
                  go_simp
                  exact ⟨Ext.refl _, by first | rfl | trivial⟩
                · rintro ρ w1 hw hcst hfn hk
                  clear hw
                  simp only [known, List.getD_cons_zero, List.getD_cons_succ, Nat.reduceAdd] at hk
                  simp only [List.getD_cons_zero, List.getD_cons_succ, Nat.reduceAdd, flowAt]
                  go_simp
                  exact ⟨Ext.refl _, by first | rfl | trivial⟩
                · rintro ρ w1 hw hcst hfn hk
                  simp only [known, List.getD_cons_zero, List.getD_cons_succ, Nat.reduceAdd] at hk
                  simp only [List.getD_cons_zero, List.getD_cons_succ, Nat.reduceAdd, flowAt]
                  go_simp
                  exact ⟨Ext.refl _, by first | rfl | trivial | (simp [hin]; done) | (simp; omega)⟩
                · rintro ρ w1 hw hcst hfn hk
                  clear hw
                  simp only [known, List.getD_cons_zero, List.getD_cons_succ, Nat.reduceAdd] at hk
                  simp only [List.getD_cons_zero, List.getD_cons_succ, Nat.reduceAdd, flowAt]
                  go_simp
                  exact ⟨Ext.refl _, by first | rfl | trivial⟩
                · rintro ρ w1 hw hcst hfn hk
                  clear hw
                  simp only [known, List.getD_cons_zero, List.getD_cons_succ, Nat.reduceAdd] at hk
                  simp only [List.getD_cons_zero, List.getD_cons_succ, Nat.reduceAdd, flowAt]
                  rintro vg rfl
                  refine ⟨fun hg => ?_, fun hg => ?_⟩ <;> simp at hg
                  first | exact trivial | exact rfl
                · rintro ρ w1 hw hcst hfn hk
                  clear hw
                  simp only [known, List.getD_cons_zero, List.getD_cons_succ, Nat.reduceAdd] at hk
                  simp only [List.getD_cons_zero, List.getD_cons_succ, Nat.reduceAdd, flowAt]
                  rintro vg rfl
                  refine ⟨fun hg => ?_, fun hg => ?_⟩ <;> simp at hg
                  first | exact trivial | exact rfl
                · rintro ρ w1 hw hcst hfn hk
                  clear hw
                  simp only [known, List.getD_cons_zero, List.getD_cons_succ, Nat.reduceAdd] at hk
                  simp only [List.getD_cons_zero, List.getD_cons_succ, Nat.reduceAdd, flowAt]
                  rintro vg rfl
                  refine ⟨fun hg => ?_, fun hg => ?_⟩ <;> simp at hg
                  first | exact trivial | exact rfl
                · rintro ρ w1 hw hcst hfn hk
                  clear hw
                  simp only [known, List.getD_cons_zero, List.getD_cons_succ, Nat.reduceAdd] at hk
                  simp only [List.getD_cons_zero, List.getD_cons_succ, Nat.reduceAdd, flowAt]
                  rintro vg rfl
                  refine ⟨fun hg => ?_, fun hg => ?_⟩ <;> simp at hg
                  first | exact trivial | exact rfl
                · rintro ρ w1 hw hcst hfn hk
                  clear hw
                  simp only [known, List.getD_cons_zero, List.getD_cons_succ, Nat.reduceAdd] at hk
                  simp only [List.getD_cons_zero, List.getD_cons_succ, Nat.reduceAdd, flowAt]
                  rintro vg rfl
                  refine ⟨fun hg => ?_, fun hg => ?_⟩ <;> simp at hg
                  first | exact trivial | exact rfl
                · rintro ρ w1 hw hcst hfn hk
                  clear hw
                  simp only [known, List.getD_cons_zero, List.getD_cons_succ, Nat.reduceAdd] at hk
                  simp only [List.getD_cons_zero, List.getD_cons_succ, Nat.reduceAdd, flowAt]
                  go_simp
                  exact ⟨Ext.refl _, by first | rfl | trivial⟩
                · rintro ρ w1 hw hcst hfn hk
                  clear hw
                  simp only [known, List.getD_cons_zero, List.getD_cons_succ, Nat.reduceAdd] at hk
                  simp only [List.getD_cons_zero, List.getD_cons_succ, Nat.reduceAdd, flowAt]
                  go_simp
                  exact ⟨Ext.refl _, by first | rfl | trivial⟩
              intro vs w1 hw hf
              simp only [flowFacts, Nat.reduceAdd] at hf
              obtain ⟨e0, e1, e2, e3, e4, e5, e6, e7, e8, e9, e10, e11, e12, e13, e14, e15, e16, e17, e18, e19, -⟩ := hf
              simp only [List.take_succ_cons, List.take_zero, List.drop_succ_cons, List.drop_zero, putAll, Act.put, Nat.reduceAdd, List.setIfInBounds_toArray, List.set_cons_zero, List.set_cons_succ, e0, e1, e2, e3, e4, e5, e6, e7, e8, e9, e10, e11, e12, e13, e14, e15, e16, e17, e18, e19]
              clear e0 e1 e2 e3 e4 e5 e6 e7 e8 e9 e10 e11 e12 e13 e14 e15 e16 e17 e18 e19
              have hx := (Ext.refl _).drew.trans hw
              replace p0 := hx.cell p0
              replace hE := hE.trans hx
              replace RL := hid (RL.out.ext hx)
              clear hx hw
              go_wp2_with fail
              go_roundw
              case rel => exact ⟨k + 1, by omega, by go_num, hid ⟨hE, p0, RL.out⟩⟩
              case measure => first | (simp [intOf]; done) | (simp [intOf]; omega)
          · go_wp2_with fail
            go_returns
            exact ⟨rfl, hE⟩
      · have e1 : addC L y = 4 := by unfold addC; rw [HOK.out, HYL.out, hh]; rfl
        have e2 : addL L y = [] := by unfold addL; rw [if_neg (by rw [e1]; decide)]
        have e3 : hasWordB L y = true := by unfold hasWordB; rw [hh, HOK.out]; rfl
        rw [e1, e2] at HAD
        rw [e3] at HHW
        clear hh e1 e2 e3
        go_wp2_with fail
        refine (HAD.out _ RL.out).mono ?_
        rintro e z7 ⟨a4, c4, rfl, -, hx⟩
        clear HAD
        replace p0 := hx.cell p0
        replace hE := hE.trans hx
        replace RL := hid (RL.out.ext hx)
        clear hx
        have hl_p0 := World.block_lt_of_cell? _ _ p0
        have hx := (Ext.refl z7).alloc (.cells #[.slice a4 0 c4] 26)
        have p3 : (z7.alloc (.cells #[.slice a4 0 c4] 26)).cell? ⟨z7.heap.size, 0, none⟩ = some (.slice a4 0 c4) := by simp
        replace p0 := hx.cell p0
        replace hE := hE.trans hx
        replace RL := hid (RL.out.ext hx)
        clear hx hl_p0
        go_wp2_with fail
        refine (HHW.out _ RL.out).mono ?_
        rintro e z8 ⟨rfl, hx⟩
        clear p3
        replace p0 := hx.cell p0
        replace hE := hE.trans hx
        replace RL := hid (RL.out.ext hx)
        clear hx
        clear HHW HSM
        have hlen2 : 2 ≤ y.size := (long_size HYL.out).1
        obtain ⟨u, hu⟩ : ∃ u, hdB y = u := ⟨_, rfl⟩
        have HU : Hid (y.extract 0 1 = ⟨#[u]⟩) := hid (by
          obtain ⟨r, e⟩ := hd_cons (s := y) (by omega)
          apply ba_list
          rw [extract_list, e, hu]
          rfl)
        have HPR := hid (fun w' (h : Rd w' a1 (strsV L)) => PrefixRange_yes a1 c1 L ⟨#[u]⟩ w' h HSZ.out HOK.out)
        have HRG := hid (fun i (hi : i < L.length) => range_hd HRI.out HW'.out u i hi)
        have hpl := posL_le L ⟨#[u]⟩
        have hrl := runP_le L ⟨#[u]⟩ (posL L ⟨#[u]⟩)
        obtain ⟨p, hp⟩ : ∃ p, posL L ⟨#[u]⟩ = p := ⟨_, rfl⟩
        rw [hp] at HPR HRG hpl hrl
        obtain ⟨n2, hn2⟩ : ∃ n2, runP L ⟨#[u]⟩ p = n2 := ⟨_, rfl⟩
        rw [hn2] at HPR HRG hrl
        have HHU := hid hu
        have hlen3 : (1 : Int) ≤ (y.size : Int) := by omega
        have f1 : ¬ (p : Int) < 0 := by omega
        have f2 : ¬ (n2 : Int) < 0 := by omega
        have f3 : IntKind.i64.wrap ((p : Int) + n2) = (p : Int) + n2 := IntWalk.i64_in _ (by omega)
        have f4 : ¬ (L.length : Int) < (p : Int) + n2 := by omega
        have f5 : ¬ (100000 : Int) < p := by omega
        have f6 : ¬ (100000 : Int) < n2 := by omega
        clear hp hn2 hu
        go_wp2_with fail
        refine wp_region_flow_at (C := Ext) 11 [fun v _ => v = .agg #[.slice a1 L.length c1], fun v _ => v = .string y, fun v _ => v = .string ⟨#[u]⟩, fun v _ => v = .tuple #[.int .i64 p, .int .i64 n2, .int .i64 0], fun v _ => v = .tuple #[.int .i64 p, .int .i64 n2, .int .i64 0], fun v _ => v = .int .i64 p, fun v _ => v = .int .i64 n2, fun v _ => v = .int .i64 0, fun v _ => v = .int .i64 p, fun v _ => v = .int .i64 n2, fun v _ => v = .int .i64 0]
          [[(5, none)], [(6, none)], [(122, some 1)], [(121, some 0), (123, some 2)], [(124, some 3)], [(120, some 4)], [(120, some 4)], [(120, some 4)], [(125, some 5)], [(126, some 6)], [(127, some 7)]] (by kernel_rfl) (by kernel_rfl) Ext.refl (fun _ _ _ => Ext.trans) ?_ ?_ ?_
        · intro F hF
          simp only [List.mem_cons, List.not_mem_nil, or_false] at hF
          rcases hF with rfl | rfl | rfl | rfl | rfl | rfl | rfl | rfl | rfl | rfl | rfl <;> exact fun _ _ _ h _ => h
        · refine ⟨?_, ?_, ?_, ?_, ?_, ?_, ?_, ?_, ?_, ?_, ?_, trivial⟩
          · rintro ρ w1 hw hcst hfn hk
            have c0 := hw.cell (b := G) (o := 0) (v := .slice a1 L.length c1) (by first | (simp [*]; done) | (simp [*, go_sem]; done) | go_cell)
            clear hw
            simp only [known, List.getD_cons_zero, List.getD_cons_succ, Nat.reduceAdd] at hk
            simp only [List.getD_cons_zero, List.getD_cons_succ, Nat.reduceAdd, flowAt]
            go_simp
            exact ⟨Ext.refl _, by first | rfl | trivial⟩
          · rintro ρ w1 hw hcst hfn hk
            clear hw
            simp only [known, List.getD_cons_zero, List.getD_cons_succ, Nat.reduceAdd] at hk
            simp only [List.getD_cons_zero, List.getD_cons_succ, Nat.reduceAdd, flowAt]
            go_simp
            exact ⟨Ext.refl _, by first | rfl | trivial⟩
          · rintro ρ w1 hw hcst hfn hk
            simp only [known, List.getD_cons_zero, List.getD_cons_succ, Nat.reduceAdd] at hk
            simp only [List.getD_cons_zero, List.getD_cons_succ, Nat.reduceAdd, flowAt]
            go_simp
            exact ⟨Ext.refl _, by rw [HU.out]⟩
          · rintro ρ w1 hw hcst hfn hk
            simp only [known, List.getD_cons_zero, List.getD_cons_succ, Nat.reduceAdd] at hk
            simp only [List.getD_cons_zero, List.getD_cons_succ, Nat.reduceAdd, flowAt]
            go_simp
            exact flow_ret (HPR.out _ (RL.out.ext ((Ext.refl _).drew.trans hw)))
          · rintro ρ w1 hw hcst hfn hk
            clear hw
            simp only [known, List.getD_cons_zero, List.getD_cons_succ, Nat.reduceAdd] at hk
            simp only [List.getD_cons_zero, List.getD_cons_succ, Nat.reduceAdd, flowAt]
            go_simp
            exact ⟨Ext.refl _, by first | rfl | trivial⟩
          · rintro ρ w1 hw hcst hfn hk
            clear hw
            simp only [known, List.getD_cons_zero, List.getD_cons_succ, Nat.reduceAdd] at hk
            simp only [List.getD_cons_zero, List.getD_cons_succ, Nat.reduceAdd, flowAt]
            go_simp
            exact ⟨Ext.refl _, by first | rfl | trivial⟩
          · rintro ρ w1 hw hcst hfn hk
            clear hw
            simp only [known, List.getD_cons_zero, List.getD_cons_succ, Nat.reduceAdd] at hk
            simp only [List.getD_cons_zero, List.getD_cons_succ, Nat.reduceAdd, flowAt]
            go_simp
            exact ⟨Ext.refl _, by first | rfl | trivial⟩
          · rintro ρ w1 hw hcst hfn hk
            clear hw
            simp only [known, List.getD_cons_zero, List.getD_cons_succ, Nat.reduceAdd] at hk
            simp only [List.getD_cons_zero, List.getD_cons_succ, Nat.reduceAdd, flowAt]
            go_simp
            exact ⟨Ext.refl _, by first | rfl | trivial⟩
          · rintro ρ w1 hw hcst hfn hk
            clear hw
            simp only [known, List.getD_cons_zero, List.getD_cons_succ, Nat.reduceAdd] at hk
            simp only [List.getD_cons_zero, List.getD_cons_succ, Nat.reduceAdd, flowAt]
            go_simp
            exact ⟨Ext.refl _, by first | rfl | trivial⟩
          · rintro ρ w1 hw hcst hfn hk
            clear hw
            simp only [known, List.getD_cons_zero, List.getD_cons_succ, Nat.reduceAdd] at hk
            simp only [List.getD_cons_zero, List.getD_cons_succ, Nat.reduceAdd, flowAt]
            go_simp
            exact ⟨Ext.refl _, by first | rfl | trivial⟩
          · rintro ρ w1 hw hcst hfn hk
            clear hw
            simp only [known, List.getD_cons_zero, List.getD_cons_succ, Nat.reduceAdd] at hk
            simp only [List.getD_cons_zero, List.getD_cons_succ, Nat.reduceAdd, flowAt]
            go_simp
            exact ⟨Ext.refl _, by first | rfl | trivial⟩
        intro vs w1 hw hf
        simp only [flowFacts, Nat.reduceAdd] at hf
        obtain ⟨e0, e1, e2, e3, e4, e5, e6, e7, e8, e9, e10, -⟩ := hf
        simp only [List.take_succ_cons, List.take_zero, List.drop_succ_cons, List.drop_zero, putAll, Act.put, Nat.reduceAdd, List.setIfInBounds_toArray, List.set_cons_zero, List.set_cons_succ, e0, e1, e2, e3, e4, e5, e6, e7, e8, e9, e10]
        clear e0 e1 e2 e3 e4 e5 e6 e7 e8 e9 e10
        have hx := (Ext.refl _).drew.trans hw
        replace p0 := hx.cell p0
        replace hE := hE.trans hx
        replace RL := hid (RL.out.ext hx)
        clear hx hw HPR
        have HK0 := hid (show Ext w w1 ∧ w1.cell? ⟨G, 0, none⟩ = some (.slice a1 L.length c1) ∧ Rd w1 a1 (strsV L) from ⟨hE, p0, RL.out⟩)
        clear hE RL
        go_wp2_with fail
        clear p0
        go_loopw [20] (fun i wr => ∃ k : Nat, k ≤ L.length ∧ i = .int .i64 k ∧ Hid (Ext w wr ∧ wr.cell? ⟨G, 0, none⟩ = some (.slice a1 L.length c1) ∧ Rd wr a1 (strsV L))) (fun i _ => L.length - (intOf i).toNat)
        case atStart => exact ⟨0, by omega, rfl, HK0⟩
        case round =>
          clear HK0
          obtain ⟨k, hk, rfl, HK⟩ := hrel
          obtain ⟨hE, p0, hrl2⟩ := HK.out
          have RL := hid hrl2
          clear HK hrl2
          by_cases hlt : k < L.length
          · obtain ⟨g1, o1, rfl, hc⟩ := RL.out.word (by omega)
            have ck := hc k hlt
            have HRk := hid (HRG.out k hlt)
            have hs2 := (long_size (HW'.out _ (wAt_mem L k hlt))).1
            obtain ⟨s, hs⟩ : ∃ s, wAt L k = s := ⟨_, rfl⟩
            rw [hs] at ck HRk hs2
            obtain ⟨q, hq⟩ : ∃ q, o1 + k = q := ⟨_, rfl⟩
            rw [hq] at ck
            have hs3 : (0 : Int) < (s.size : Int) := by omega
            have hs4 : 0 < s.size := by omega
            have hy3 : (0 : Int) < (y.size : Int) := by omega
            have hy4 : 0 < y.size := by omega
            have HV0 := hid (bAt_eq s 0 hs4)
            have HY0 : Hid (y[0] = u) := hid (by rw [bAt_eq y 0 hy4]; exact HHU.out)
            obtain ⟨bt, hbt⟩ : ∃ bt, hdB s = bt := ⟨_, rfl⟩
            have HV : Hid (s[0] = bt) := hid (by rw [HV0.out]; exact hbt)
            rw [hbt] at HRk
            have hkl : (k : Int) < L.length := by omega
            clear hc hs hbt HV0
            by_cases hin : (p : Int) ≤ k
            · by_cases hin2 : (k : Int) < (p : Int) + n2
              · obtain rfl : bt = u := HRk.out.2 ⟨by omega, by omega⟩
                have hne : ((bt.toNat : Int) == bt.toNat) = true := by simp
                go_wp2_with fail
                refine wp_region_flow_at (C := Ext) 20 [fun v _ => v = .pointer (some ⟨G, 0, none⟩), fun v _ => v = .slice (some ⟨g1, o1, none⟩) L.length c1, fun v _ => v = .int .i64 (k : Int), fun v _ => v = .pointer (some ⟨g1, q, none⟩), fun v _ => v = .string s, fun v _ => v = .int .u8 (bt.toNat : Int), fun v _ => v = .string y, fun v _ => v = .int .u8 (bt.toNat : Int), fun v _ => v = .bool true, fun v _ => v = .int .i64 (k : Int), fun v _ => v = .int .i64 (p : Int), fun v _ => v = .bool true, fun v _ => v = .bool true, fun v _ => v = .int .i64 (k : Int), fun v _ => v = .int .i64 (p : Int), fun v _ => v = .int .i64 (n2 : Int), fun v _ => v = .int .i64 ((p : Int) + n2), fun v _ => v = .bool true, fun v _ => v = .bool true, fun v _ => v = .bool false]
                  [[(5, none)], [(162, some 0)], [(20, none)], [(163, some 1), (164, some 2)], [(165, some 3)], [(166, some 4)], [(6, none)], [(168, some 6)], [(167, some 5), (169, some 7)], [(20, none)], [(17, none)], [(171, some 9), (172, some 10)], [(173, some 11)], [(20, none)], [(17, none)], [(18, none)], [(176, some 14), (177, some 15)], [(175, some 13), (178, some 16)], [(174, some 12), (179, some 17)], [(170, some 8), (180, some 18)]] (by kernel_rfl) (by kernel_rfl) Ext.refl (fun _ _ _ => Ext.trans) ?_ ?_ ?_
                · intro F hF
                  simp only [List.mem_cons, List.not_mem_nil, or_false] at hF
                  rcases hF with rfl | rfl | rfl | rfl | rfl | rfl | rfl | rfl | rfl | rfl | rfl | rfl | rfl | rfl | rfl | rfl | rfl | rfl | rfl | rfl <;> exact fun _ _ _ h _ => h
                · refine ⟨?_, ?_, ?_, ?_, ?_, ?_, ?_, ?_, ?_, ?_, ?_, ?_, ?_, ?_, ?_, ?_, ?_, ?_, ?_, ?_, trivial⟩
                  · rintro ρ w1 hw hcst hfn hk
                    clear hw
                    simp only [known, List.getD_cons_zero, List.getD_cons_succ, Nat.reduceAdd] at hk
                    simp only [List.getD_cons_zero, List.getD_cons_succ, Nat.reduceAdd, flowAt]
                    go_simp
                    exact ⟨Ext.refl _, by first | rfl | trivial⟩
                  · rintro ρ w1 hw hcst hfn hk
                    have c0 := hw.cell (b := G) (o := 0) (v := .slice (some ⟨g1, o1, none⟩) L.length c1) (by first | (simp [*]; done) | (simp [*, go_sem]; done) | go_cell)
                    clear hw
                    simp only [known, List.getD_cons_zero, List.getD_cons_succ, Nat.reduceAdd] at hk
                    simp only [List.getD_cons_zero, List.getD_cons_succ, Nat.reduceAdd, flowAt]
                    go_simp
                    exact ⟨Ext.refl _, by first | rfl | trivial⟩
                  · rintro ρ w1 hw hcst hfn hk
                    clear hw
                    simp only [known, List.getD_cons_zero, List.getD_cons_succ, Nat.reduceAdd] at hk
                    simp only [List.getD_cons_zero, List.getD_cons_succ, Nat.reduceAdd, flowAt]
                    go_simp
                    exact ⟨Ext.refl _, by first | rfl | trivial⟩
                  · rintro ρ w1 hw hcst hfn hk
                    simp only [known, List.getD_cons_zero, List.getD_cons_succ, Nat.reduceAdd] at hk
                    simp only [List.getD_cons_zero, List.getD_cons_succ, Nat.reduceAdd, flowAt]
                    go_simp
                    exact ⟨Ext.refl _, by first | rfl | rw [hq]⟩
                  · rintro ρ w1 hw hcst hfn hk
                    have c0 := hw.cell (b := g1) (o := q) (v := .string s) (by first | (simp [*]; done) | (simp [*, go_sem]; done) | go_cell)
                    clear hw
                    simp only [known, List.getD_cons_zero, List.getD_cons_succ, Nat.reduceAdd] at hk
                    simp only [List.getD_cons_zero, List.getD_cons_succ, Nat.reduceAdd, flowAt]
                    go_simp
                    exact ⟨Ext.refl _, by first | rfl | trivial⟩
                  · rintro ρ w1 hw hcst hfn hk
                    simp only [known, List.getD_cons_zero, List.getD_cons_succ, Nat.reduceAdd] at hk
                    simp only [List.getD_cons_zero, List.getD_cons_succ, Nat.reduceAdd, flowAt]
                    go_simp
                    exact ⟨Ext.refl _, by first | rfl | rw [HV.out]⟩
                  · rintro ρ w1 hw hcst hfn hk
                    clear hw
                    simp only [known, List.getD_cons_zero, List.getD_cons_succ, Nat.reduceAdd] at hk
                    simp only [List.getD_cons_zero, List.getD_cons_succ, Nat.reduceAdd, flowAt]
                    go_simp
                    exact ⟨Ext.refl _, by first | rfl | trivial⟩
                  · rintro ρ w1 hw hcst hfn hk
                    simp only [known, List.getD_cons_zero, List.getD_cons_succ, Nat.reduceAdd] at hk
                    simp only [List.getD_cons_zero, List.getD_cons_succ, Nat.reduceAdd, flowAt]
                    go_simp
                    exact ⟨Ext.refl _, by first | rfl | rw [HY0.out]⟩
                  · rintro ρ w1 hw hcst hfn hk
                    simp only [known, List.getD_cons_zero, List.getD_cons_succ, Nat.reduceAdd] at hk
                    simp only [List.getD_cons_zero, List.getD_cons_succ, Nat.reduceAdd, flowAt]
                    go_simp
                    exact ⟨Ext.refl _, by first | rfl | trivial | rw [hne] | simp [hne]⟩
                  · rintro ρ w1 hw hcst hfn hk
                    clear hw
                    simp only [known, List.getD_cons_zero, List.getD_cons_succ, Nat.reduceAdd] at hk
                    simp only [List.getD_cons_zero, List.getD_cons_succ, Nat.reduceAdd, flowAt]
                    go_simp
                    exact ⟨Ext.refl _, by first | rfl | trivial⟩
                  · rintro ρ w1 hw hcst hfn hk
                    clear hw
                    simp only [known, List.getD_cons_zero, List.getD_cons_succ, Nat.reduceAdd] at hk
                    simp only [List.getD_cons_zero, List.getD_cons_succ, Nat.reduceAdd, flowAt]
                    go_simp
                    exact ⟨Ext.refl _, by first | rfl | trivial⟩
                  · rintro ρ w1 hw hcst hfn hk
                    simp only [known, List.getD_cons_zero, List.getD_cons_succ, Nat.reduceAdd] at hk
                    simp only [List.getD_cons_zero, List.getD_cons_succ, Nat.reduceAdd, flowAt]
                    go_simp
                    exact ⟨Ext.refl _, by first | rfl | trivial | (simp [hin]; done) | (simp; omega)⟩
                  · rintro ρ w1 hw hcst hfn hk
                    clear hw
                    simp only [known, List.getD_cons_zero, List.getD_cons_succ, Nat.reduceAdd] at hk
                    simp only [List.getD_cons_zero, List.getD_cons_succ, Nat.reduceAdd, flowAt]
                    go_simp
                    exact ⟨Ext.refl _, by first | rfl | trivial⟩
                  · rintro ρ w1 hw hcst hfn hk
                    clear hw
                    simp only [known, List.getD_cons_zero, List.getD_cons_succ, Nat.reduceAdd] at hk
                    simp only [List.getD_cons_zero, List.getD_cons_succ, Nat.reduceAdd, flowAt]
                    rintro vg rfl
                    refine ⟨fun hg => ?_, fun hg => ?_⟩ <;> simp at hg
                    go_simp
                    exact ⟨Ext.refl _, by first | rfl | trivial⟩
                  · rintro ρ w1 hw hcst hfn hk
                    clear hw
                    simp only [known, List.getD_cons_zero, List.getD_cons_succ, Nat.reduceAdd] at hk
                    simp only [List.getD_cons_zero, List.getD_cons_succ, Nat.reduceAdd, flowAt]
                    rintro vg rfl
                    refine ⟨fun hg => ?_, fun hg => ?_⟩ <;> simp at hg
                    go_simp
                    exact ⟨Ext.refl _, by first | rfl | trivial⟩
                  · rintro ρ w1 hw hcst hfn hk
                    clear hw
                    simp only [known, List.getD_cons_zero, List.getD_cons_succ, Nat.reduceAdd] at hk
                    simp only [List.getD_cons_zero, List.getD_cons_succ, Nat.reduceAdd, flowAt]
                    rintro vg rfl
                    refine ⟨fun hg => ?_, fun hg => ?_⟩ <;> simp at hg
                    go_simp
                    exact ⟨Ext.refl _, by first | rfl | trivial⟩
                  · rintro ρ w1 hw hcst hfn hk
                    simp only [known, List.getD_cons_zero, List.getD_cons_succ, Nat.reduceAdd] at hk
                    simp only [List.getD_cons_zero, List.getD_cons_succ, Nat.reduceAdd, flowAt]
                    rintro vg rfl
                    refine ⟨fun hg => ?_, fun hg => ?_⟩ <;> simp at hg
                    go_simp
                    exact ⟨Ext.refl _, by first | rfl | rw [f3]⟩
                  · rintro ρ w1 hw hcst hfn hk
                    simp only [known, List.getD_cons_zero, List.getD_cons_succ, Nat.reduceAdd] at hk
                    simp only [List.getD_cons_zero, List.getD_cons_succ, Nat.reduceAdd, flowAt]
                    rintro vg rfl
                    refine ⟨fun hg => ?_, fun hg => ?_⟩ <;> simp at hg
                    go_simp
                    exact ⟨Ext.refl _, by first | rfl | trivial | (simp [hin2]; done) | (simp; omega)⟩
                  · rintro ρ w1 hw hcst hfn hk
                    clear hw
                    simp only [known, List.getD_cons_zero, List.getD_cons_succ, Nat.reduceAdd] at hk
                    simp only [List.getD_cons_zero, List.getD_cons_succ, Nat.reduceAdd, flowAt]
                    go_simp
                    exact ⟨Ext.refl _, by first | rfl | trivial⟩
                  · rintro ρ w1 hw hcst hfn hk
                    clear hw
                    simp only [known, List.getD_cons_zero, List.getD_cons_succ, Nat.reduceAdd] at hk
                    simp only [List.getD_cons_zero, List.getD_cons_succ, Nat.reduceAdd, flowAt]
                    go_simp
                    exact ⟨Ext.refl _, by first | rfl | trivial⟩
                intro vs w1 hw hf
                simp only [flowFacts, Nat.reduceAdd] at hf
                obtain ⟨e0, e1, e2, e3, e4, e5, e6, e7, e8, e9, e10, e11, e12, e13, e14, e15, e16, e17, e18, e19, -⟩ := hf
                simp only [List.take_succ_cons, List.take_zero, List.drop_succ_cons, List.drop_zero, putAll, Act.put, Nat.reduceAdd, List.setIfInBounds_toArray, List.set_cons_zero, List.set_cons_succ, e0, e1, e2, e3, e4, e5, e6, e7, e8, e9, e10, e11, e12, e13, e14, e15, e16, e17, e18, e19]
                clear e0 e1 e2 e3 e4 e5 e6 e7 e8 e9 e10 e11 e12 e13 e14 e15 e16 e17 e18 e19
                have hx := (Ext.refl _).drew.trans hw
                replace p0 := hx.cell p0
                replace hE := hE.trans hx
                replace RL := hid (RL.out.ext hx)
                clear hx hw
                go_wp2_with fail
                go_roundw
                case rel => exact ⟨k + 1, by omega, by go_num, hid ⟨hE, p0, RL.out⟩⟩
                case measure => first | (simp [intOf]; done) | (simp [intOf]; omega)
              · have hvu : bt ≠ u := fun e => by have := (HRk.out.1 e).2; omega
                have hne : ((bt.toNat : Int) == u.toNat) = false := by
                  rw [beq_eq_false_iff_ne]
                  intro e
                  exact hvu (UInt8.toNat_inj.1 (by omega))
                clear hvu
                go_wp2_with fail
                refine wp_region_flow_at (C := Ext) 20 [fun v _ => v = .pointer (some ⟨G, 0, none⟩), fun v _ => v = .slice (some ⟨g1, o1, none⟩) L.length c1, fun v _ => v = .int .i64 (k : Int), fun v _ => v = .pointer (some ⟨g1, q, none⟩), fun v _ => v = .string s, fun v _ => v = .int .u8 (bt.toNat : Int), fun v _ => v = .string y, fun v _ => v = .int .u8 (u.toNat : Int), fun v _ => v = .bool false, fun v _ => v = .int .i64 (k : Int), fun v _ => v = .int .i64 (p : Int), fun v _ => v = .bool true, fun v _ => v = .bool true, fun v _ => v = .int .i64 (k : Int), fun v _ => v = .int .i64 (p : Int), fun v _ => v = .int .i64 (n2 : Int), fun v _ => v = .int .i64 ((p : Int) + n2), fun v _ => v = .bool false, fun v _ => v = .bool false, fun v _ => v = .bool false]
                  [[(5, none)], [(162, some 0)], [(20, none)], [(163, some 1), (164, some 2)], [(165, some 3)], [(166, some 4)], [(6, none)], [(168, some 6)], [(167, some 5), (169, some 7)], [(20, none)], [(17, none)], [(171, some 9), (172, some 10)], [(173, some 11)], [(20, none)], [(17, none)], [(18, none)], [(176, some 14), (177, some 15)], [(175, some 13), (178, some 16)], [(174, some 12), (179, some 17)], [(170, some 8), (180, some 18)]] (by kernel_rfl) (by kernel_rfl) Ext.refl (fun _ _ _ => Ext.trans) ?_ ?_ ?_
                · intro F hF
                  simp only [List.mem_cons, List.not_mem_nil, or_false] at hF
                  rcases hF with rfl | rfl | rfl | rfl | rfl | rfl | rfl | rfl | rfl | rfl | rfl | rfl | rfl | rfl | rfl | rfl | rfl | rfl | rfl | rfl <;> exact fun _ _ _ h _ => h
                · refine ⟨?_, ?_, ?_, ?_, ?_, ?_, ?_, ?_, ?_, ?_, ?_, ?_, ?_, ?_, ?_, ?_, ?_, ?_, ?_, ?_, trivial⟩
                  · rintro ρ w1 hw hcst hfn hk
                    clear hw
                    simp only [known, List.getD_cons_zero, List.getD_cons_succ, Nat.reduceAdd] at hk
                    simp only [List.getD_cons_zero, List.getD_cons_succ, Nat.reduceAdd, flowAt]
                    go_simp
                    exact ⟨Ext.refl _, by first | rfl | trivial⟩
                  · rintro ρ w1 hw hcst hfn hk
                    have c0 := hw.cell (b := G) (o := 0) (v := .slice (some ⟨g1, o1, none⟩) L.length c1) (by first | (simp [*]; done) | (simp [*, go_sem]; done) | go_cell)
                    clear hw
                    simp only [known, List.getD_cons_zero, List.getD_cons_succ, Nat.reduceAdd] at hk
                    simp only [List.getD_cons_zero, List.getD_cons_succ, Nat.reduceAdd, flowAt]
                    go_simp
                    exact ⟨Ext.refl _, by first | rfl | trivial⟩
                  · rintro ρ w1 hw hcst hfn hk
                    clear hw
                    simp only [known, List.getD_cons_zero, List.getD_cons_succ, Nat.reduceAdd] at hk
                    simp only [List.getD_cons_zero, List.getD_cons_succ, Nat.reduceAdd, flowAt]
                    go_simp
                    exact ⟨Ext.refl _, by first | rfl | trivial⟩
                  · rintro ρ w1 hw hcst hfn hk
                    simp only [known, List.getD_cons_zero, List.getD_cons_succ, Nat.reduceAdd] at hk
                    simp only [List.getD_cons_zero, List.getD_cons_succ, Nat.reduceAdd, flowAt]
                    go_simp
                    exact ⟨Ext.refl _, by first | rfl | rw [hq]⟩
                  · rintro ρ w1 hw hcst hfn hk
                    have c0 := hw.cell (b := g1) (o := q) (v := .string s) (by first | (simp [*]; done) | (simp [*, go_sem]; done) | go_cell)
                    clear hw
                    simp only [known, List.getD_cons_zero, List.getD_cons_succ, Nat.reduceAdd] at hk
                    simp only [List.getD_cons_zero, List.getD_cons_succ, Nat.reduceAdd, flowAt]
                    go_simp
                    exact ⟨Ext.refl _, by first | rfl | trivial⟩
                  · rintro ρ w1 hw hcst hfn hk
                    simp only [known, List.getD_cons_zero, List.getD_cons_succ, Nat.reduceAdd] at hk
                    simp only [List.getD_cons_zero, List.getD_cons_succ, Nat.reduceAdd, flowAt]
                    go_simp
                    exact ⟨Ext.refl _, by first | rfl | rw [HV.out]⟩
                  · rintro ρ w1 hw hcst hfn hk
                    clear hw
                    simp only [known, List.getD_cons_zero, List.getD_cons_succ, Nat.reduceAdd] at hk
                    simp only [List.getD_cons_zero, List.getD_cons_succ, Nat.reduceAdd, flowAt]
                    go_simp
                    exact ⟨Ext.refl _, by first | rfl | trivial⟩
                  · rintro ρ w1 hw hcst hfn hk
                    simp only [known, List.getD_cons_zero, List.getD_cons_succ, Nat.reduceAdd] at hk
                    simp only [List.getD_cons_zero, List.getD_cons_succ, Nat.reduceAdd, flowAt]
                    go_simp
                    exact ⟨Ext.refl _, by first | rfl | rw [HY0.out]⟩
                  · rintro ρ w1 hw hcst hfn hk
                    simp only [known, List.getD_cons_zero, List.getD_cons_succ, Nat.reduceAdd] at hk
                    simp only [List.getD_cons_zero, List.getD_cons_succ, Nat.reduceAdd, flowAt]
                    go_simp
                    exact ⟨Ext.refl _, by first | rfl | trivial | rw [hne] | simp [hne]⟩
                  · rintro ρ w1 hw hcst hfn hk
                    clear hw
                    simp only [known, List.getD_cons_zero, List.getD_cons_succ, Nat.reduceAdd] at hk
                    simp only [List.getD_cons_zero, List.getD_cons_succ, Nat.reduceAdd, flowAt]
                    go_simp
                    exact ⟨Ext.refl _, by first | rfl | trivial⟩
                  · rintro ρ w1 hw hcst hfn hk
                    clear hw
                    simp only [known, List.getD_cons_zero, List.getD_cons_succ, Nat.reduceAdd] at hk
                    simp only [List.getD_cons_zero, List.getD_cons_succ, Nat.reduceAdd, flowAt]
                    go_simp
                    exact ⟨Ext.refl _, by first | rfl | trivial⟩
                  · rintro ρ w1 hw hcst hfn hk
                    simp only [known, List.getD_cons_zero, List.getD_cons_succ, Nat.reduceAdd] at hk
                    simp only [List.getD_cons_zero, List.getD_cons_succ, Nat.reduceAdd, flowAt]
                    go_simp
                    exact ⟨Ext.refl _, by first | rfl | trivial | (simp [hin]; done) | (simp; omega)⟩
                  · rintro ρ w1 hw hcst hfn hk
                    clear hw
                    simp only [known, List.getD_cons_zero, List.getD_cons_succ, Nat.reduceAdd] at hk
                    simp only [List.getD_cons_zero, List.getD_cons_succ, Nat.reduceAdd, flowAt]
                    go_simp
                    exact ⟨Ext.refl _, by first | rfl | trivial⟩
                  · rintro ρ w1 hw hcst hfn hk
                    clear hw
                    simp only [known, List.getD_cons_zero, List.getD_cons_succ, Nat.reduceAdd] at hk
                    simp only [List.getD_cons_zero, List.getD_cons_succ, Nat.reduceAdd, flowAt]
                    rintro vg rfl
                    refine ⟨fun hg => ?_, fun hg => ?_⟩ <;> simp at hg
                    go_simp
                    exact ⟨Ext.refl _, by first | rfl | trivial⟩
                  · rintro ρ w1 hw hcst hfn hk
                    clear hw
                    simp only [known, List.getD_cons_zero, List.getD_cons_succ, Nat.reduceAdd] at hk
                    simp only [List.getD_cons_zero, List.getD_cons_succ, Nat.reduceAdd, flowAt]
                    rintro vg rfl
                    refine ⟨fun hg => ?_, fun hg => ?_⟩ <;> simp at hg
                    go_simp
                    exact ⟨Ext.refl _, by first | rfl | trivial⟩
                  · rintro ρ w1 hw hcst hfn hk
                    clear hw
                    simp only [known, List.getD_cons_zero, List.getD_cons_succ, Nat.reduceAdd] at hk
                    simp only [List.getD_cons_zero, List.getD_cons_succ, Nat.reduceAdd, flowAt]
                    rintro vg rfl
                    refine ⟨fun hg => ?_, fun hg => ?_⟩ <;> simp at hg
                    go_simp
                    exact ⟨Ext.refl _, by first | rfl | trivial⟩
                  · rintro ρ w1 hw hcst hfn hk
                    simp only [known, List.getD_cons_zero, List.getD_cons_succ, Nat.reduceAdd] at hk
                    simp only [List.getD_cons_zero, List.getD_cons_succ, Nat.reduceAdd, flowAt]
                    rintro vg rfl
                    refine ⟨fun hg => ?_, fun hg => ?_⟩ <;> simp at hg
                    go_simp
                    exact ⟨Ext.refl _, by first | rfl | rw [f3]⟩
                  · rintro ρ w1 hw hcst hfn hk
                    simp only [known, List.getD_cons_zero, List.getD_cons_succ, Nat.reduceAdd] at hk
                    simp only [List.getD_cons_zero, List.getD_cons_succ, Nat.reduceAdd, flowAt]
                    rintro vg rfl
                    refine ⟨fun hg => ?_, fun hg => ?_⟩ <;> simp at hg
                    go_simp
                    exact ⟨Ext.refl _, by first | rfl | trivial | (simp [hin2]; done) | (simp; omega)⟩
                  · rintro ρ w1 hw hcst hfn hk
                    clear hw
                    simp only [known, List.getD_cons_zero, List.getD_cons_succ, Nat.reduceAdd] at hk
                    simp only [List.getD_cons_zero, List.getD_cons_succ, Nat.reduceAdd, flowAt]
                    go_simp
                    exact ⟨Ext.refl _, by first | rfl | trivial⟩
                  · rintro ρ w1 hw hcst hfn hk
                    clear hw
                    simp only [known, List.getD_cons_zero, List.getD_cons_succ, Nat.reduceAdd] at hk
                    simp only [List.getD_cons_zero, List.getD_cons_succ, Nat.reduceAdd, flowAt]
                    go_simp
                    exact ⟨Ext.refl _, by first | rfl | trivial⟩
                intro vs w1 hw hf
                simp only [flowFacts, Nat.reduceAdd] at hf
                obtain ⟨e0, e1, e2, e3, e4, e5, e6, e7, e8, e9, e10, e11, e12, e13, e14, e15, e16, e17, e18, e19, -⟩ := hf
                simp only [List.take_succ_cons, List.take_zero, List.drop_succ_cons, List.drop_zero, putAll, Act.put, Nat.reduceAdd, List.setIfInBounds_toArray, List.set_cons_zero, List.set_cons_succ, e0, e1, e2, e3, e4, e5, e6, e7, e8, e9, e10, e11, e12, e13, e14, e15, e16, e17, e18, e19]
                clear e0 e1 e2 e3 e4 e5 e6 e7 e8 e9 e10 e11 e12 e13 e14 e15 e16 e17 e18 e19
                have hx := (Ext.refl _).drew.trans hw
                replace p0 := hx.cell p0
                replace hE := hE.trans hx
                replace RL := hid (RL.out.ext hx)
                clear hx hw
                go_wp2_with fail
                go_roundw
                case rel => exact ⟨k + 1, by omega, by go_num, hid ⟨hE, p0, RL.out⟩⟩
                case measure => first | (simp [intOf]; done) | (simp [intOf]; omega)
            · have hvu : bt ≠ u := fun e => by have := (HRk.out.1 e).1; omega
              have hne : ((bt.toNat : Int) == u.toNat) = false := by
                rw [beq_eq_false_iff_ne]
                intro e
                exact hvu (UInt8.toNat_inj.1 (by omega))
              clear hvu
              go_wp2_with fail
              refine wp_region_flow_at (C := Ext) 20 [fun v _ => v = .pointer (some ⟨G, 0, none⟩), fun v _ => v = .slice (some ⟨g1, o1, none⟩) L.length c1, fun v _ => v = .int .i64 (k : Int), fun v _ => v = .pointer (some ⟨g1, q, none⟩), fun v _ => v = .string s, fun v _ => v = .int .u8 (bt.toNat : Int), fun v _ => v = .string y, fun v _ => v = .int .u8 (u.toNat : Int), fun v _ => v = .bool false, fun v _ => v = .int .i64 (k : Int), fun v _ => v = .int .i64 (p : Int), fun v _ => v = .bool false, fun v _ => v = .bool false, fun v _ => v = undef, fun v _ => v = undef, fun v _ => v = undef, fun v _ => v = undef, fun v _ => v = undef, fun v _ => v = .bool false, fun v _ => v = .bool false]
                [[(5, none)], [(162, some 0)], [(20, none)], [(163, some 1), (164, some 2)], [(165, some 3)], [(166, some 4)], [(6, none)], [(168, some 6)], [(167, some 5), (169, some 7)], [(20, none)], [(17, none)], [(171, some 9), (172, some 10)], [(173, some 11)], [(20, none)], [(17, none)], [(18, none)], [(176, some 14), (177, some 15)], [(175, some 13), (178, some 16)], [(174, some 12), (179, some 17)], [(170, some 8), (180, some 18)]] (by kernel_rfl) (by kernel_rfl) Ext.refl (fun _ _ _ => Ext.trans) ?_ ?_ ?_
              · intro F hF
                simp only [List.mem_cons, List.not_mem_nil, or_false] at hF
                rcases hF with rfl | rfl | rfl | rfl | rfl | rfl | rfl | rfl | rfl | rfl | rfl | rfl | rfl | rfl | rfl | rfl | rfl | rfl | rfl | rfl <;> exact fun _ _ _ h _ => h
              · refine ⟨?_, ?_, ?_, ?_, ?_, ?_, ?_, ?_, ?_, ?_, ?_, ?_, ?_, ?_, ?_, ?_, ?_, ?_, ?_, ?_, trivial⟩
                · rintro ρ w1 hw hcst hfn hk
                  clear hw
                  simp only [known, List.getD_cons_zero, List.getD_cons_succ, Nat.reduceAdd] at hk
                  simp only [List.getD_cons_zero, List.getD_cons_succ, Nat.reduceAdd, flowAt]
                  go_simp
                  exact ⟨Ext.refl _, by first | rfl | trivial⟩
                · rintro ρ w1 hw hcst hfn hk
                  have c0 := hw.cell (b := G) (o := 0) (v := .slice (some ⟨g1, o1, none⟩) L.length c1) (by first | (simp [*]; done) | (simp [*, go_sem]; done) | go_cell)
                  clear hw
                  simp only [known, List.getD_cons_zero, List.getD_cons_succ, Nat.reduceAdd] at hk
                  simp only [List.getD_cons_zero, List.getD_cons_succ, Nat.reduceAdd, flowAt]
                  go_simp
                  exact ⟨Ext.refl _, by first | rfl | trivial⟩
                · rintro ρ w1 hw hcst hfn hk
                  clear hw
                  simp only [known, List.getD_cons_zero, List.getD_cons_succ, Nat.reduceAdd] at hk
                  simp only [List.getD_cons_zero, List.getD_cons_succ, Nat.reduceAdd, flowAt]
                  go_simp
                  exact ⟨Ext.refl _, by first | rfl | trivial⟩
                · rintro ρ w1 hw hcst hfn hk
                  simp only [known, List.getD_cons_zero, List.getD_cons_succ, Nat.reduceAdd] at hk
                  simp only [List.getD_cons_zero, List.getD_cons_succ, Nat.reduceAdd, flowAt]
                  go_simp
                  exact ⟨Ext.refl _, by first | rfl | rw [hq]⟩
                · rintro ρ w1 hw hcst hfn hk
                  have c0 := hw.cell (b := g1) (o := q) (v := .string s) (by first | (simp [*]; done) | (simp [*, go_sem]; done) | go_cell)
                  clear hw
                  simp only [known, List.getD_cons_zero, List.getD_cons_succ, Nat.reduceAdd] at hk
                  simp only [List.getD_cons_zero, List.getD_cons_succ, Nat.reduceAdd, flowAt]
                  go_simp
                  exact ⟨Ext.refl _, by first | rfl | trivial⟩
                · rintro ρ w1 hw hcst hfn hk
                  simp only [known, List.getD_cons_zero, List.getD_cons_succ, Nat.reduceAdd] at hk
                  simp only [List.getD_cons_zero, List.getD_cons_succ, Nat.reduceAdd, flowAt]
                  go_simp
                  exact ⟨Ext.refl _, by first | rfl | rw [HV.out]⟩
                · rintro ρ w1 hw hcst hfn hk
                  clear hw
                  simp only [known, List.getD_cons_zero, List.getD_cons_succ, Nat.reduceAdd] at hk
                  simp only [List.getD_cons_zero, List.getD_cons_succ, Nat.reduceAdd, flowAt]
                  go_simp
                  exact ⟨Ext.refl _, by first | rfl | trivial⟩
                · rintro ρ w1 hw hcst hfn hk
                  simp only [known, List.getD_cons_zero, List.getD_cons_succ, Nat.reduceAdd] at hk
                  simp only [List.getD_cons_zero, List.getD_cons_succ, Nat.reduceAdd, flowAt]
                  go_simp
                  exact ⟨Ext.refl _, by first | rfl | rw [HY0.out]⟩
                · rintro ρ w1 hw hcst hfn hk
                  simp only [known, List.getD_cons_zero, List.getD_cons_succ, Nat.reduceAdd] at hk
                  simp only [List.getD_cons_zero, List.getD_cons_succ, Nat.reduceAdd, flowAt]
                  go_simp
                  exact ⟨Ext.refl _, by first | rfl | trivial | rw [hne] | simp [hne]⟩
                · rintro ρ w1 hw hcst hfn hk
                  clear hw
                  simp only [known, List.getD_cons_zero, List.getD_cons_succ, Nat.reduceAdd] at hk
                  simp only [List.getD_cons_zero, List.getD_cons_succ, Nat.reduceAdd, flowAt]
                  go_simp
                  exact ⟨Ext.refl _, by first | rfl | trivial⟩
                · rintro ρ w1 hw hcst hfn hk
                  clear hw
                  simp only [known, List.getD_cons_zero, List.getD_cons_succ, Nat.reduceAdd] at hk
                  simp only [List.getD_cons_zero, List.getD_cons_succ, Nat.reduceAdd, flowAt]
                  go_simp
                  exact ⟨Ext.refl _, by first | rfl | trivial⟩
                · rintro ρ w1 hw hcst hfn hk
                  simp only [known, List.getD_cons_zero, List.getD_cons_succ, Nat.reduceAdd] at hk
                  simp only [List.getD_cons_zero, List.getD_cons_succ, Nat.reduceAdd, flowAt]
                  go_simp
                  exact ⟨Ext.refl _, by first | rfl | trivial | (simp [hin]; done) | (simp; omega)⟩
                · rintro ρ w1 hw hcst hfn hk
                  clear hw
                  simp only [known, List.getD_cons_zero, List.getD_cons_succ, Nat.reduceAdd] at hk
                  simp only [List.getD_cons_zero, List.getD_cons_succ, Nat.reduceAdd, flowAt]
                  go_simp
                  exact ⟨Ext.refl _, by first | rfl | trivial⟩
                · rintro ρ w1 hw hcst hfn hk
                  clear hw
                  simp only [known, List.getD_cons_zero, List.getD_cons_succ, Nat.reduceAdd] at hk
                  simp only [List.getD_cons_zero, List.getD_cons_succ, Nat.reduceAdd, flowAt]
                  rintro vg rfl
                  refine ⟨fun hg => ?_, fun hg => ?_⟩ <;> simp at hg
                  first | exact trivial | exact rfl
                · rintro ρ w1 hw hcst hfn hk
                  clear hw
                  simp only [known, List.getD_cons_zero, List.getD_cons_succ, Nat.reduceAdd] at hk
                  simp only [List.getD_cons_zero, List.getD_cons_succ, Nat.reduceAdd, flowAt]
                  rintro vg rfl
                  refine ⟨fun hg => ?_, fun hg => ?_⟩ <;> simp at hg
                  first | exact trivial | exact rfl
                · rintro ρ w1 hw hcst hfn hk
                  clear hw
                  simp only [known, List.getD_cons_zero, List.getD_cons_succ, Nat.reduceAdd] at hk
                  simp only [List.getD_cons_zero, List.getD_cons_succ, Nat.reduceAdd, flowAt]
                  rintro vg rfl
                  refine ⟨fun hg => ?_, fun hg => ?_⟩ <;> simp at hg
                  first | exact trivial | exact rfl
                · rintro ρ w1 hw hcst hfn hk
                  clear hw
                  simp only [known, List.getD_cons_zero, List.getD_cons_succ, Nat.reduceAdd] at hk
                  simp only [List.getD_cons_zero, List.getD_cons_succ, Nat.reduceAdd, flowAt]
                  rintro vg rfl
                  refine ⟨fun hg => ?_, fun hg => ?_⟩ <;> simp at hg
                  first | exact trivial | exact rfl
                · rintro ρ w1 hw hcst hfn hk
                  clear hw
                  simp only [known, List.getD_cons_zero, List.getD_cons_succ, Nat.reduceAdd] at hk
                  simp only [List.getD_cons_zero, List.getD_cons_succ, Nat.reduceAdd, flowAt]
                  rintro vg rfl
                  refine ⟨fun hg => ?_, fun hg => ?_⟩ <;> simp at hg
                  first | exact trivial | exact rfl
                · rintro ρ w1 hw hcst hfn hk
                  clear hw
                  simp only [known, List.getD_cons_zero, List.getD_cons_succ, Nat.reduceAdd] at hk
                  simp only [List.getD_cons_zero, List.getD_cons_succ, Nat.reduceAdd, flowAt]
                  go_simp
                  exact ⟨Ext.refl _, by first | rfl | trivial⟩
                · rintro ρ w1 hw hcst hfn hk
                  clear hw
                  simp only [known, List.getD_cons_zero, List.getD_cons_succ, Nat.reduceAdd] at hk
                  simp only [List.getD_cons_zero, List.getD_cons_succ, Nat.reduceAdd, flowAt]
                  go_simp
                  exact ⟨Ext.refl _, by first | rfl | trivial⟩
              intro vs w1 hw hf
              simp only [flowFacts, Nat.reduceAdd] at hf
              obtain ⟨e0, e1, e2, e3, e4, e5, e6, e7, e8, e9, e10, e11, e12, e13, e14, e15, e16, e17, e18, e19, -⟩ := hf
              simp only [List.take_succ_cons, List.take_zero, List.drop_succ_cons, List.drop_zero, putAll, Act.put, Nat.reduceAdd, List.setIfInBounds_toArray, List.set_cons_zero, List.set_cons_succ, e0, e1, e2, e3, e4, e5, e6, e7, e8, e9, e10, e11, e12, e13, e14, e15, e16, e17, e18, e19]
              clear e0 e1 e2 e3 e4 e5 e6 e7 e8 e9 e10 e11 e12 e13 e14 e15 e16 e17 e18 e19
              have hx := (Ext.refl _).drew.trans hw
              replace p0 := hx.cell p0
              replace hE := hE.trans hx
              replace RL := hid (RL.out.ext hx)
              clear hx hw
              go_wp2_with fail
              go_roundw
              case rel => exact ⟨k + 1, by omega, by go_num, hid ⟨hE, p0, RL.out⟩⟩
              case measure => first | (simp [intOf]; done) | (simp [intOf]; omega)
          · go_wp2_with fail
            go_returns
            exact ⟨rfl, hE⟩
set_option maxRecDepth 100000 in
theorem lifted_FnLexicons (os : Os) (started : os.Started) (H : Type) (enc : TypeId × Value → H) :
    ReturnsInHanded {} Tryd.checked os 3 .any (fun w args => (Rows.fnLexiconsSpec.pre enc Tryd.prog Tryd.f3 [] false w args ∧ laidMetH Tryd.prog Rows.fnLexiconsRow.laid w) ∧ sizedMet enc Tryd.prog Tryd.f3 (OpenSpec.ofChange Rows.fnLexiconsSpec) false w args)
      (Rows.fnLexiconsSpec.post enc Tryd.prog Tryd.f3 false true false false) := by
  refine handed_shaped_and (C := Tryd.checked) (X := fun w _ => laidMetH Tryd.prog Rows.fnLexiconsRow.laid w) (fun _ _ _ hh h => h.of_heap hh) ownRow started (by kernel_rfl) Tryd.func3
    (ChangeSpec.witness_shaped (enc := enc) (C := Tryd.checked) (os := os) (X := fun w _ => laidMetH Tryd.prog Rows.fnLexiconsRow.laid w) false (World.laidAll Tryd.prog os Rows.fnLexiconsRow.laid) #[.slice none 0 0, .slice none 0 0] 8 (World.laidAll_os _ _ _)
      (World.shaped_of_ZipB (by kernel_rfl) (by kernel_rfl)) (by kernel_rfl) (by kernel_rfl) (by kernel_rfl)
      (by rw [MakeChecks.laidMetH_plain _ _ _ (by kernel_rfl)]; exact laidMet_laidAll _ (by kernel_rfl) (by kernel_rfl))) ?_
  intro W base args ds gs before hval0 hW hSh hL
  have hval : ∀ (j : Nat) t v, Tryd.f3.params[j]? = some t → args[j]? = some v → Value.okWide Tryd.prog W .any base t v := hval0
  have hW' := hW
  obtain ⟨p, q, hA0, hV, rfl, hfz, hnd⟩ := hW
  have hA : DataW.TrodAll enc Tryd.prog W 0 (fun _ => true) true Tryd.f3.params.toList args.toList ds p := hA0
  rw [Tryd.params3] at hA hval
  obtain ⟨v0, vs0, d0, ds0, p0, q0, hargs, rfl, rfl, h0, r0⟩ := trodAll_cons hA
  obtain ⟨v1, vs1, d1, ds1, p1, q1, rfl, rfl, rfl, h1, r1⟩ := trodAll_cons r0
  obtain ⟨rfl, rfl, rfl⟩ := trodAll_nil r1
  obtain rfl : args = #[v0, v1] := by cases args; simp_all
  obtain ⟨rfl, rfl⟩ := trodVars_none hV
  have k0 := h0
  have lt0 : ∀ x ∈ p0, x.block < W.heap.size := by obtain ⟨m, hm⟩ := k0; exact DataW.trod_lt m _ _ _ hm
  have k1 := h1
  have lt1 : ∀ x ∈ p1, x.block < W.heap.size := by obtain ⟨m, hm⟩ := k1; exact DataW.trod_lt m _ _ _ hm
  obtain ⟨a0_a, a0_c, a0_l, rfl, r_a0, n_a0⟩ := open_code Tryd.underlying22 Tryd.underlying5 (by kernel_rfl) (hval 0 22 v0 rfl rfl) h0
  obtain ⟨a1_a, a1_c, a1_l, rfl, r_a1, n_a1⟩ := open_code Tryd.underlying22 Tryd.underlying5 (by kernel_rfl) (hval 1 22 v1 rfl rfl) h1
  clear hA0 hval0
  refine (walk_FnLexicons a0_a a0_c a0_l a1_a a1_c a1_l W r_a0 n_a0 r_a1 n_a1 (maxAt_of hSh)).mono fun e W' ⟨he, bel⟩ => ?_
  subst he
  exact ⟨_, rfl, _, _, _, [], _, [], hW', trodAll_mk1 (shut_bool Tryd.underlying4 _), (trodAll_cons_mk (Below.trod laidRow (by kernel_rfl) (of_decide_eq_true (by kernel_rfl)) k0 bel lt0) (trodAll_cons_mk (Below.trod laidRow (by kernel_rfl) (of_decide_eq_true (by kernel_rfl)) k1 bel lt1) trodAll_mk0)), rfl, bel.frame _, fun h => by cases h⟩

theorem over_FnLexicons : Rows.fnLexiconsRow.holds Tryd.pinned (OpenSpec.ofChange Rows.fnLexiconsSpec) :=
  OpenClaim.holds_of_wide 3 Tryd.f3 rfl rfl rfl rfl rfl rfl rfl ⟨rfl, rfl, rfl, rfl, rfl⟩ rfl rfl rfl rfl rfl (by kernel_rfl) Tryd.func3 (by kernel_rfl)
    (of_decide_eq_true (by kernel_rfl)) (by unfold Func.isWrapper; first | (rw [if_pos (by decide +kernel)]; kernel_rfl) | (rw [if_neg (by decide +kernel)]; exact ⟨rfl, rfl⟩))
    (fun os started H enc _ => lifted_FnLexicons os started H enc)

theorem said_FnLexicons : Rows.FnLexiconsCardSaid :=
  Claim7.holds_tied_plain_at .later [] [.data, .pinned] true (true, "a77a3be8cc8e706029bd236c8ac588a53e97d1e7de2f7fbeb46a9e74d8b6576e") false over_FnLexicons (fun _ h => by cases h) (by kernel_rfl) (fun _ h => by cases h) fnLexicons_row_tie rfl ⟨rfl, rfl⟩ (by kernel_rfl) rfl
    (fun f fn hf hfn => by
      obtain rfl : f = 3 := Option.some.inj ((show Tryd.prog.funcNamed "loop.example/g00911/laws.FnLexicons" = some 3 by kernel_rfl).symm.trans hf) |>.symm
      obtain rfl : fn = Tryd.f3 := (Option.some.inj (Tryd.func3.symm.trans hfn)).symm
      exact ⟨by kernel_rfl, fun j t ht => by
        rw [Tryd.params3] at ht
        have hm : t ∈ [22, 22] := by simpa using Array.mem_of_getElem? ht
        have hall : ([22, 22].all fun u => !Tryd.prog.wantsStandIn u) = true := by kernel_rfl
        exact (show Tryd.prog.wantsStandIn t = false by simpa using List.all_eq_true.1 hall t hm)⟩)
    (by kernel_rfl)
end Go.Proofs.YtflpiebiacainaaDoor
