/- FnHooks: whatever it is given, it says yes. -/
import Derived.Test.YtfnobjejjjpkoaaDrawM
import Derived.Test.YtfnobjejjjpkoaaHookL
import Derived.Test.YtfnobjejjjpkoaaCh10j
import Derived.Test.YtfnobjejjjpkoaaRow3
namespace Go.Proofs.Ytfnobjejjjpkoaa
set_option linter.unusedVariables false
set_option linter.unusedSimpArgs false
open Go Go.RowKit Go.ChangeShapes Go.WideShapes Go.ChangeAt
open Go.ChangeMaps (open_string shut_string)
/-- A tuple of a list and a code. -/
def TuW (M : List ByteArray) (k : Int) (v : Value) (w : World) : Prop := ∃ a c, v = .tuple #[.slice a M.length c, .int .i64 k] ∧ Rd w a (strsV M)
/-- A list. -/
def SlW (M : List ByteArray) (v : Value) (w : World) : Prop := ∃ a c, v = .slice a M.length c ∧ Rd w a (strsV M)
theorem TuW.ext {M : List ByteArray} {k : Int} {v : Value} {w w' : World} (h : TuW M k v w) (x : Ext w w') : TuW M k v w' := by
  obtain ⟨a, c, e, h1⟩ := h
  exact ⟨a, c, e, h1.ext x⟩
theorem SlW.ext {M : List ByteArray} {v : Value} {w w' : World} (h : SlW M v w) (x : Ext w w') : SlW M v w' := by
  obtain ⟨a, c, e, h1⟩ := h
  exact ⟨a, c, e, h1.ext x⟩
theorem flow_retW {P : Program} {f : FuncId} {args : Array Value} {M : List ByteArray} {k : Int} {w : World} (h : Calls P f args w (RetW M k w)) : flowUpon P Ext w (fun v w' => TuW M k v w') (.ok (.enter f args) w) :=
  ⟨Ext.refl w, h.mono fun _ _ ⟨a, c, he, ho, hx⟩ => ⟨_, he, hx, ⟨a, c, rfl, ho.rd⟩⟩⟩
set_option maxRecDepth 100000 in
set_option maxHeartbeats 8000000 in
theorem walk_FnHooks (a : Option Addr) (cc : Nat) (l : List UInt8) (w : World) (hr : Rd w a (bytesV l)) (hl : l.length ≤ maxLen) :
    Calls Try.prog 4 #[.slice a l.length cc] w (Ret (.bool true) w) := by
  have HR := hid hr
  have HF := hid (f6big_any a cc l w hl)
  clear hr
  by_cases hbig : 4096 < l.length
  · rw [show decide (4096 < l.length) = true by simpa using hbig] at HF
    clear hbig
    go_enter Try.func4, Try.ntmps4
    go_wp2_with fail
    refine HF.out.mono ?_
    rintro e w' ⟨rfl, rfl⟩
    go_wp2_with fail
    go_returns
    exact ⟨rfl, Ext.refl _⟩
  rw [show decide (4096 < l.length) = false by simpa using hbig] at HF
  have HD := hid (DrawInsertsOf_any a cc l w HR.out (by omega))
  clear hbig
  go_enter Try.func4, Try.ntmps4
  go_wp2_with fail
  refine HF.out.mono ?_
  rintro e w' ⟨rfl, rfl⟩
  go_wp2_with fail
  refine HD.out.mono ?_
  rintro e w1 ⟨v, rfl, ⟨u, p, rfl, ⟨A, C, L, rfl, ho, hL, hLs⟩, hp⟩, hx⟩
  have hE := hx
  have RL := hid ho.rd
  have HLs : Hid (∀ s ∈ L, s.size ≤ 1048576) := hid (fun s hs => Nat.le_trans (hLs s hs) (by omega))
  have HF1 := hid (fun w' (h : Rd w' A (strsV L)) => FrontHooks_any A C L p w' h (by omega) HLs.out (by omega))
  have HF2 := hid (fun w' (h : Rd w' A (strsV L)) => sFrontHooks_any A C L p w' h (by omega) HLs.out (by omega))
  have HB1 := hid (fun w' (h : Rd w' A (strsV L)) => BackHooks_any A C L p w' h (by omega) HLs.out (by omega))
  have HB2 := hid (fun w' (h : Rd w' A (strsV L)) => sBackHooks_any A C L p w' h (by omega) HLs.out (by omega))
  have HI1 := hid (fun w' (h : Rd w' A (strsV L)) => InsertsOf_any A C L p w' h (by omega) HLs.out (by omega))
  have HI2 := hid (fun w' (h : Rd w' A (strsV L)) => sInsertsOf_any A C L p w' h (by omega) HLs.out (by omega))
  have HD1 := hid (fun s w' (h : Rd w' A (strsV L)) (hs : s.size ≤ 1048576) => DropsOf_any A C L s w' h (by omega) HLs.out hs)
  have HD2 := hid (fun w' (h : Rd w' A (strsV L)) => sDropsOf_any A C L p w' h (by omega) HLs.out (by omega))
  have HDp := hid (fun w' (h : Rd w' A (strsV L)) => HD1.out p w' h (by omega))
  have HHW := hid (fun w' (h : Rd w' A (strsV L)) => HasWord_any A C L p w' h (by omega) HLs.out)
  have HVL := hid (relL_le (fun s => dropB p s) L p (by omega))
  have HXL := hid (relL_le (fun s => dropB s p) L p (by omega))
  have HIN := hid (@front_in L p)
  have HBK := hid (@back_in L p)
  have HDR := hid (fun (h : askC L p = 0) x (hx : x ∈ relL (fun s => dropB p s) L p) => ins_drop h hx)
  have HDL := hid (fun x => relL_le (fun s => dropB s x) L x (by omega))
  have HFS := hid (hooksV_size L p noB p)
  have HBS := hid (hooksV_size L p p noB)
  obtain ⟨n, hn⟩ : ∃ n, L.length = n := ⟨_, rfl⟩
  obtain ⟨V, hV⟩ : ∃ V, relL (fun s => dropB p s) L p = V := ⟨_, rfl⟩
  obtain ⟨X, hX⟩ : ∃ V, relL (fun s => dropB s p) L p = V := ⟨_, rfl⟩
  obtain ⟨K, hK⟩ : ∃ K, askC L p = K := ⟨_, rfl⟩
  obtain ⟨F, hF⟩ : ∃ F, hooksV L p noB p = F := ⟨_, rfl⟩
  obtain ⟨G, hG⟩ : ∃ F, hooksV L p p noB = F := ⟨_, rfl⟩
  obtain ⟨hb, hhb⟩ : ∃ hb, hasWordB L p = hb := ⟨_, rfl⟩
  rw [hF, hK, hn] at HF1 HF2
  rw [hG, hK, hn] at HB1 HB2
  rw [hV, hK, hn] at HI1 HI2
  rw [hX, hK, hn] at HDp HD2
  rw [hV] at HVL HDR HIN HBK
  rw [hX] at HXL
  rw [hF, hK] at HIN
  rw [hG, hK] at HBK
  rw [hF] at HFS
  rw [hG] at HBS
  rw [hhb, hn] at HHW
  rw [hK, hhb] at HDR
  rw [hn] at HD1
  rw [hn] at hL ⊢
  have HN := hid hn
  have hFs : F.size ≤ 26 := HFS.out
  have hGs : G.size ≤ 26 := HBS.out
  have hx1 : Ext w1 (w1.alloc (.cells #[.slice A n C] 28)) := (Ext.refl w1).alloc _
  obtain ⟨B, hB⟩ : ∃ B, w1.heap.size = B := ⟨_, rfl⟩
  have b0 : (w1.alloc (.cells #[.slice A n C] 28)).cell? ⟨B, 0, none⟩ = some (.slice A n C) := by subst hB; simp
  replace hE := hE.trans hx1
  replace RL := hid (RL.out.ext hx1)
  have HB := hid hB
  clear ho hLs hV hX hK hF hG hhb hn hx hx1 hB HR HF HD HFS HBS
  go_wp2_with fail
  simp only [HB.out]
  clear HB
  go_wp2_with fail
  refine (HF1.out _ RL.out).mono ?_
  rintro e z1 ⟨rfl, hx⟩
  replace b0 := hx.cell b0
  replace RL := hid (RL.out.ext hx)
  replace hE := hE.trans hx
  clear hx
  go_wp2_with fail
  refine (HB1.out _ RL.out).mono ?_
  rintro e z2 ⟨rfl, hx⟩
  replace b0 := hx.cell b0
  replace RL := hid (RL.out.ext hx)
  replace hE := hE.trans hx
  clear hx
  go_wp2_with fail
  refine (HI1.out _ RL.out).mono ?_
  rintro e z3 ⟨a2, c2, rfl, ho2, hx⟩
  replace b0 := hx.cell b0
  replace RL := hid (RL.out.ext hx)
  replace hE := hE.trans hx
  clear hx
  have R2 := hid ho2.rd
  clear ho2
  go_wp2_with fail
  refine (HDp.out _ RL.out).mono ?_
  rintro e z4 ⟨a3, c3, rfl, ho3, hx⟩
  replace b0 := hx.cell b0
  replace RL := hid (RL.out.ext hx)
  replace R2 := hid (R2.out.ext hx)
  replace hE := hE.trans hx
  clear hx
  have R3 := hid ho3.rd
  clear ho3
  go_wp2_with fail
  refine (HF2.out _ RL.out).mono ?_
  rintro e z5 ⟨rfl, hx⟩
  replace b0 := hx.cell b0
  replace RL := hid (RL.out.ext hx)
  replace R2 := hid (R2.out.ext hx)
  replace R3 := hid (R3.out.ext hx)
  replace hE := hE.trans hx
  clear hx
  go_wp2_with fail
  refine (HB2.out _ RL.out).mono ?_
  rintro e z6 ⟨rfl, hx⟩
  replace b0 := hx.cell b0
  replace RL := hid (RL.out.ext hx)
  replace R2 := hid (R2.out.ext hx)
  replace R3 := hid (R3.out.ext hx)
  replace hE := hE.trans hx
  clear hx
  go_wp2_with fail
  refine (HI2.out _ RL.out).mono ?_
  rintro e z7 ⟨a4, c4, rfl, ho4, hx⟩
  replace b0 := hx.cell b0
  replace RL := hid (RL.out.ext hx)
  replace R2 := hid (R2.out.ext hx)
  replace R3 := hid (R3.out.ext hx)
  replace hE := hE.trans hx
  clear hx
  have R4 := hid ho4.rd
  clear ho4
  go_wp2_with fail
  refine (HD2.out _ RL.out).mono ?_
  rintro e z8 ⟨a5, c5, rfl, ho5, hx⟩
  replace b0 := hx.cell b0
  replace RL := hid (RL.out.ext hx)
  replace R2 := hid (R2.out.ext hx)
  replace R3 := hid (R3.out.ext hx)
  replace R4 := hid (R4.out.ext hx)
  replace hE := hE.trans hx
  clear hx
  have R5 := hid ho5.rd
  clear ho5
  go_wp2_with fail
  refine (f6same_self a2 a4 c2 c4 V _ R2.out R4.out HVL.out).mono ?_
  rintro e z9 ⟨rfl, hx⟩
  replace b0 := hx.cell b0
  replace RL := hid (RL.out.ext hx)
  replace R2 := hid (R2.out.ext hx)
  replace R3 := hid (R3.out.ext hx)
  replace R4 := hid (R4.out.ext hx)
  replace R5 := hid (R5.out.ext hx)
  replace hE := hE.trans hx
  clear hx
  go_wp2_with fail
  refine (f6same_self a3 a5 c3 c5 X _ R3.out R5.out HXL.out).mono ?_
  rintro e z10 ⟨rfl, hx⟩
  replace b0 := hx.cell b0
  replace RL := hid (RL.out.ext hx)
  replace R2 := hid (R2.out.ext hx)
  replace R3 := hid (R3.out.ext hx)
  replace R4 := hid (R4.out.ext hx)
  replace R5 := hid (R5.out.ext hx)
  replace hE := hE.trans hx
  clear hx
  clear HF1 HF2 HB1 HB2 HI1 HI2 HDp HD2 R3 R4 R5 HXL
  by_cases hK : K = 0
  rotate_left
  · have hK2 : (K == 0) = false := by simpa using hK
    go_wp2_with fail
    go_returns
    exact ⟨rfl, hE⟩
  subst hK
  replace HIN := hid (fun i hi => HIN.out rfl (i := i) hi)
  replace HBK := hid (fun i hi => HBK.out rfl (i := i) hi)
  replace HDR := hid (HDR.out rfl)
  go_wp2_with fail
  go_loopw [21] (fun i wr => ∃ k : Nat, k ≤ F.size ∧ i = .int .i64 k ∧ Hid (Ext w wr ∧ wr.cell? ⟨B, 0, none⟩ = some (.slice A n C) ∧ Rd wr A (strsV L) ∧ Rd wr a2 (strsV V))) (fun i _ => F.size - (intOf i).toNat)
  case atStart => exact ⟨0, by omega, rfl, hid ⟨hE, b0, RL.out, R2.out⟩⟩
  case round =>
    clear hE b0 RL R2
    obtain ⟨k, hk, rfl, HK⟩ := hrel
    obtain ⟨hE, b0, rL, r2⟩ := HK.out
    have RL := hid rL
    have R2 := hid r2
    clear rL r2 HK
    by_cases hlt : k < F.size
    · have HH := hid (HIN.out k hlt)
      have hno : ¬ 9223372036854775807 < (F.extract k (k + 1)).size + p.size := by rw [ByteArray.size_extract]; omega
      have hno2 : ¬ 9223372036854775807 < 1 + p.size := by omega
      have HS6 := hid (fun w' (h : Rd w' a2 (strsV V)) => f6has_any a2 c2 V (F.extract k (k + 1) ++ p) w' h HVL.out)
      rw [HH.out] at HS6
      clear HH
      go_wp2_with fail
      refine (HS6.out _ R2.out).mono ?_
      rintro e z11 ⟨rfl, hx⟩
      replace b0 := hx.cell b0
      replace RL := hid (RL.out.ext hx)
      replace R2 := hid (R2.out.ext hx)
      replace hE := hE.trans hx
      clear hx
      go_wp2_with fail
      go_roundw
      case rel => exact ⟨k + 1, by omega, by go_num, hid ⟨hE, b0, RL.out, R2.out⟩⟩
      case measure => simp [intOf]; omega
    · go_wp2_with fail
      clear hlt hk
      go_loopw [22] (fun i wr => ∃ k : Nat, k ≤ G.size ∧ i = .int .i64 k ∧ Hid (Ext w wr ∧ wr.cell? ⟨B, 0, none⟩ = some (.slice A n C) ∧ Rd wr A (strsV L) ∧ Rd wr a2 (strsV V))) (fun i _ => G.size - (intOf i).toNat)
      case atStart => exact ⟨0, by omega, rfl, hid ⟨hE, b0, RL.out, R2.out⟩⟩
      case round =>
        clear hE b0 RL R2
        obtain ⟨k, hk, rfl, HK⟩ := hrel
        obtain ⟨hE, b0, rL, r2⟩ := HK.out
        have RL := hid rL
        have R2 := hid r2
        clear rL r2 HK
        by_cases hlt : k < G.size
        · have HH := hid (HBK.out k hlt)
          have hno : ¬ 9223372036854775807 < p.size + (G.extract k (k + 1)).size := by rw [ByteArray.size_extract]; omega
          have hno2 : ¬ 9223372036854775807 < p.size + 1 := by omega
          have HS6 := hid (fun w' (h : Rd w' a2 (strsV V)) => f6has_any a2 c2 V (p ++ G.extract k (k + 1)) w' h HVL.out)
          rw [HH.out] at HS6
          clear HH
          go_wp2_with fail
          refine (HS6.out _ R2.out).mono ?_
          rintro e z12 ⟨rfl, hx⟩
          replace b0 := hx.cell b0
          replace RL := hid (RL.out.ext hx)
          replace R2 := hid (R2.out.ext hx)
          replace hE := hE.trans hx
          clear hx
          go_wp2_with fail
          go_roundw
          case rel => exact ⟨k + 1, by omega, by go_num, hid ⟨hE, b0, RL.out, R2.out⟩⟩
          case measure => simp [intOf]; omega
        · go_wp2_with fail
          clear hlt hk
          have hvl : V.length ≤ 1048576 := HVL.out
          go_loopw [23] (fun i wr => ∃ k : Nat, k ≤ V.length ∧ i = .int .i64 k ∧ Hid (Ext w wr ∧ wr.cell? ⟨B, 0, none⟩ = some (.slice A n C) ∧ Rd wr A (strsV L) ∧ Rd wr a2 (strsV V))) (fun i _ => V.length - (intOf i).toNat)
          case atStart => exact ⟨0, by omega, rfl, hid ⟨hE, b0, RL.out, R2.out⟩⟩
          case round =>
            clear hE b0 RL R2
            obtain ⟨k, hk, rfl, HK⟩ := hrel
            obtain ⟨hE, b0, rL, r2⟩ := HK.out
            have RL := hid rL
            have R2 := hid r2
            clear rL r2 HK
            by_cases hlt : k < V.length
            · obtain ⟨bb, o, rfl, hcs⟩ := R2.out.word (by omega)
              have c0 := hcs k hlt
              have HSL := hid (HDR.out (wAt V k) (wAt_mem V k hlt))
              obtain ⟨s, hs⟩ : ∃ s, wAt V k = s := ⟨_, rfl⟩
              rw [hs] at c0 HSL
              obtain ⟨p1, hp1⟩ : ∃ p1, o + k = p1 := ⟨_, rfl⟩
              rw [hp1] at c0
              have HDs := hid (fun w' (h : Rd w' A (strsV L)) => HD1.out s w' h (HLs.out s HSL.out.2.2))
              obtain ⟨M, hM⟩ : ∃ M, relL (fun y => dropB y s) L s = M := ⟨_, rfl⟩
              have HIM := hid HSL.out.2.1
              have HML := hid (HDL.out s)
              rw [hM] at HDs HIM HML
              rw [HSL.out.1] at HDs
              clear hcs hs hM
              go_wp2_with fail
              refine wp_region_flow_at (C := Ext) 11 [fun v _ => v = .agg #[.slice A n C], fun v _ => v = .slice (some ⟨bb, o, none⟩) V.length c2, fun v _ => v = .int .i64 k, fun v _ => v = .pointer (some ⟨bb, p1, none⟩), fun v _ => v = .string s, fun v w' => TuW M 0 v w', fun v w' => TuW M 0 v w', fun v w' => SlW M v w', fun v _ => v = .int .i64 0, fun v w' => SlW M v w', fun v _ => v = .int .i64 0]
                [[(3, none)], [(9, none)], [(23, none)], [(163, some 1), (164, some 2)], [(165, some 3)], [(162, some 0), (166, some 4)], [(167, some 5)], [(161, some 6)], [(161, some 6)], [(168, some 7)], [(169, some 8)]] (by kernel_rfl) (by kernel_rfl) Ext.refl (fun _ _ _ => Ext.trans) ?_ ?_ ?_
              · intro F hF
                simp only [List.mem_cons, List.not_mem_nil, or_false] at hF
                rcases hF with rfl | rfl | rfl | rfl | rfl | rfl | rfl | rfl | rfl | rfl | rfl
                · exact fun _ _ _ h _ => h
                · exact fun _ _ _ h _ => h
                · exact fun _ _ _ h _ => h
                · exact fun _ _ _ h _ => h
                · exact fun _ _ _ h _ => h
                · exact fun _ _ _ h k => h.ext k
                · exact fun _ _ _ h k => h.ext k
                · exact fun _ _ _ h k => h.ext k
                · exact fun _ _ _ h _ => h
                · exact fun _ _ _ h k => h.ext k
                · exact fun _ _ _ h _ => h
              · refine ⟨?_, ?_, ?_, ?_, ?_, ?_, ?_, ?_, ?_, ?_, ?_, trivial⟩
                · rintro ρ w1 hw hcst hfn hk
                  have c0 := hw.cell (b := B) (o := 0) (v := .slice A n C) (by first | (simp [*]; done) | (simp [*, go_sem]; done) | go_cell)
                  clear hw
                  simp only [known, List.getD_cons_zero, List.getD_cons_succ, Nat.reduceAdd] at hk
                  simp only [List.getD_cons_zero, List.getD_cons_succ, Nat.reduceAdd, flowAt]
                  go_simp
                  exact ⟨Ext.refl _, rfl⟩
                · rintro ρ w1 hw hcst hfn hk
                  clear hw
                  simp only [known, List.getD_cons_zero, List.getD_cons_succ, Nat.reduceAdd] at hk
                  simp only [List.getD_cons_zero, List.getD_cons_succ, Nat.reduceAdd, flowAt]
                  go_simp
                  exact ⟨Ext.refl _, rfl⟩
                · rintro ρ w1 hw hcst hfn hk
                  clear hw
                  simp only [known, List.getD_cons_zero, List.getD_cons_succ, Nat.reduceAdd] at hk
                  simp only [List.getD_cons_zero, List.getD_cons_succ, Nat.reduceAdd, flowAt]
                  go_simp
                  exact ⟨Ext.refl _, rfl⟩
                · rintro ρ w1 hw hcst hfn hk
                  clear hw
                  simp only [known, List.getD_cons_zero, List.getD_cons_succ, Nat.reduceAdd] at hk
                  simp only [List.getD_cons_zero, List.getD_cons_succ, Nat.reduceAdd, flowAt]
                  go_simp
                  exact ⟨Ext.refl _, rfl⟩
                · rintro ρ w1 hw hcst hfn hk
                  have c0 := hw.cell (b := bb) (o := p1) (v := .string s) (by first | (simp [*]; done) | (simp [*, go_sem]; done) | go_cell)
                  clear hw
                  simp only [known, List.getD_cons_zero, List.getD_cons_succ, Nat.reduceAdd] at hk
                  simp only [List.getD_cons_zero, List.getD_cons_succ, Nat.reduceAdd, flowAt]
                  go_simp
                  exact ⟨Ext.refl _, rfl⟩
                · rintro ρ w1 hw hcst hfn hk
                  simp only [known, List.getD_cons_zero, List.getD_cons_succ, Nat.reduceAdd] at hk
                  simp only [List.getD_cons_zero, List.getD_cons_succ, Nat.reduceAdd, flowAt]
                  go_simp
                  exact flow_retW (HDs.out _ (RL.out.ext ((Ext.refl _).drew.trans hw)))
                · rintro ρ w1 hw hcst hfn hk
                  simp only [known, List.getD_cons_zero, List.getD_cons_succ, Nat.reduceAdd] at hk
                  simp only [List.getD_cons_zero, List.getD_cons_succ, Nat.reduceAdd, flowAt]
                  go_simp
                  exact ⟨Ext.refl _, hk.1⟩
                · rintro ρ w1 hw hcst hfn hk
                  simp only [known, List.getD_cons_zero, List.getD_cons_succ, Nat.reduceAdd] at hk
                  simp only [List.getD_cons_zero, List.getD_cons_succ, Nat.reduceAdd, flowAt]
                  go_simp
                  (obtain ⟨a6, c6, e6, r6⟩ := hk.1; rw [e6]; exact ⟨Ext.refl _, a6, c6, rfl, r6⟩)
                · rintro ρ w1 hw hcst hfn hk
                  simp only [known, List.getD_cons_zero, List.getD_cons_succ, Nat.reduceAdd] at hk
                  simp only [List.getD_cons_zero, List.getD_cons_succ, Nat.reduceAdd, flowAt]
                  go_simp
                  (obtain ⟨a6, c6, e6, r6⟩ := hk.1; rw [e6]; exact ⟨Ext.refl _, rfl⟩)
                · rintro ρ w1 hw hcst hfn hk
                  simp only [known, List.getD_cons_zero, List.getD_cons_succ, Nat.reduceAdd] at hk
                  simp only [List.getD_cons_zero, List.getD_cons_succ, Nat.reduceAdd, flowAt]
                  go_simp
                  exact ⟨Ext.refl _, hk.1⟩
                · rintro ρ w1 hw hcst hfn hk
                  clear hw
                  simp only [known, List.getD_cons_zero, List.getD_cons_succ, Nat.reduceAdd] at hk
                  simp only [List.getD_cons_zero, List.getD_cons_succ, Nat.reduceAdd, flowAt]
                  go_simp
                  exact ⟨Ext.refl _, rfl⟩
              intro vs w1 hw hf
              simp only [flowFacts, Nat.reduceAdd] at hf
              obtain ⟨e0, e1, e2, e3, e4, e5, e6, e7, e8, e9, e10, -⟩ := hf
              simp only [List.take_succ_cons, List.take_zero, List.drop_succ_cons, List.drop_zero, putAll, Act.put, Nat.reduceAdd, List.setIfInBounds_toArray, List.set_cons_zero, List.set_cons_succ, e0, e1, e2, e3, e4, e5, e6, e7, e8, e10]
              clear e0 e1 e2 e3 e4 e5 e6 e7 e8 e10
              obtain ⟨a9, c9, e9v, r9⟩ := e9
              rw [e9v]
              have RM := hid r9
              have hx := (Ext.refl _).drew.trans hw
              replace b0 := hx.cell b0
              replace c0 := hx.cell c0
              replace RL := hid (RL.out.ext hx)
              replace R2 := hid (R2.out.ext hx)
              replace hE := hE.trans hx
              clear hx
              clear hw e9v r9
              go_wp2_with fail
              refine wp_region_flow_at (C := Ext) 11 [fun v _ => v = .int .i64 0, fun v _ => v = .bool false, fun v _ => v = .bool false, fun v _ => v = .slice a9 M.length c9, fun v _ => v = .string p, fun v _ => v = .bool hb, fun v _ => v = .agg #[.slice A n C], fun v _ => v = .string p, fun v _ => v = .bool hb, fun v _ => v = .bool false, fun v _ => v = .bool false]
                [[(25, none)], [(170, some 0)], [(171, some 1)], [(24, none)], [(4, none)], [(173, some 3), (174, some 4)], [(3, none)], [(4, none)], [(176, some 6), (177, some 7)], [(175, some 5), (178, some 8)], [(172, some 2), (179, some 9)]] (by kernel_rfl) (by kernel_rfl) Ext.refl (fun _ _ _ => Ext.trans) ?_ ?_ ?_
              · intro F hF
                simp only [List.mem_cons, List.not_mem_nil, or_false] at hF
                rcases hF with rfl | rfl | rfl | rfl | rfl | rfl | rfl | rfl | rfl | rfl | rfl <;> exact fun _ _ _ h _ => h
              · refine ⟨?_, ?_, ?_, ?_, ?_, ?_, ?_, ?_, ?_, ?_, ?_, trivial⟩
                · rintro ρ w1 hw hcst hfn hk
                  clear hw
                  simp only [known, List.getD_cons_zero, List.getD_cons_succ, Nat.reduceAdd] at hk
                  simp only [List.getD_cons_zero, List.getD_cons_succ, Nat.reduceAdd, flowAt]
                  go_simp
                  exact ⟨Ext.refl _, rfl⟩
                · rintro ρ w1 hw hcst hfn hk
                  clear hw
                  simp only [known, List.getD_cons_zero, List.getD_cons_succ, Nat.reduceAdd] at hk
                  simp only [List.getD_cons_zero, List.getD_cons_succ, Nat.reduceAdd, flowAt]
                  go_simp
                  exact ⟨Ext.refl _, rfl⟩
                · rintro ρ w1 hw hcst hfn hk
                  clear hw
                  simp only [known, List.getD_cons_zero, List.getD_cons_succ, Nat.reduceAdd] at hk
                  simp only [List.getD_cons_zero, List.getD_cons_succ, Nat.reduceAdd, flowAt]
                  go_simp
                  exact ⟨Ext.refl _, rfl⟩
                · rintro ρ w1 hw hcst hfn hk
                  clear hw
                  simp only [known, List.getD_cons_zero, List.getD_cons_succ, Nat.reduceAdd] at hk
                  simp only [List.getD_cons_zero, List.getD_cons_succ, Nat.reduceAdd, flowAt]
                  rintro vg rfl
                  refine ⟨fun hg => ?_, fun hg => ?_⟩ <;> simp at hg
                  go_simp
                  exact ⟨Ext.refl _, rfl⟩
                · rintro ρ w1 hw hcst hfn hk
                  clear hw
                  simp only [known, List.getD_cons_zero, List.getD_cons_succ, Nat.reduceAdd] at hk
                  simp only [List.getD_cons_zero, List.getD_cons_succ, Nat.reduceAdd, flowAt]
                  rintro vg rfl
                  refine ⟨fun hg => ?_, fun hg => ?_⟩ <;> simp at hg
                  go_simp
                  exact ⟨Ext.refl _, rfl⟩
                · rintro ρ w1 hw hcst hfn hk
                  simp only [known, List.getD_cons_zero, List.getD_cons_succ, Nat.reduceAdd] at hk
                  simp only [List.getD_cons_zero, List.getD_cons_succ, Nat.reduceAdd, flowAt]
                  rintro vg rfl
                  refine ⟨fun hg => ?_, fun hg => ?_⟩ <;> simp at hg
                  go_simp
                  exact flow_ret (by rw [← HIM.out]; exact f6has_any a9 c9 M p _ (RM.out.ext ((Ext.refl _).drew.trans hw)) HML.out)
                · rintro ρ w1 hw hcst hfn hk
                  have c0 := hw.cell (b := B) (o := 0) (v := .slice A n C) (by first | (simp [*]; done) | (simp [*, go_sem]; done) | go_cell)
                  clear hw
                  simp only [known, List.getD_cons_zero, List.getD_cons_succ, Nat.reduceAdd] at hk
                  simp only [List.getD_cons_zero, List.getD_cons_succ, Nat.reduceAdd, flowAt]
                  rintro vg rfl
                  refine ⟨fun hg => ?_, fun hg => ?_⟩ <;> simp at hg
                  go_simp
                  exact ⟨Ext.refl _, rfl⟩
                · rintro ρ w1 hw hcst hfn hk
                  clear hw
                  simp only [known, List.getD_cons_zero, List.getD_cons_succ, Nat.reduceAdd] at hk
                  simp only [List.getD_cons_zero, List.getD_cons_succ, Nat.reduceAdd, flowAt]
                  rintro vg rfl
                  refine ⟨fun hg => ?_, fun hg => ?_⟩ <;> simp at hg
                  go_simp
                  exact ⟨Ext.refl _, rfl⟩
                · rintro ρ w1 hw hcst hfn hk
                  simp only [known, List.getD_cons_zero, List.getD_cons_succ, Nat.reduceAdd] at hk
                  simp only [List.getD_cons_zero, List.getD_cons_succ, Nat.reduceAdd, flowAt]
                  rintro vg rfl
                  refine ⟨fun hg => ?_, fun hg => ?_⟩ <;> simp at hg
                  go_simp
                  exact flow_ret (HHW.out _ (RL.out.ext ((Ext.refl _).drew.trans hw)))
                · rintro ρ w1 hw hcst hfn hk
                  clear hw
                  simp only [known, List.getD_cons_zero, List.getD_cons_succ, Nat.reduceAdd] at hk
                  simp only [List.getD_cons_zero, List.getD_cons_succ, Nat.reduceAdd, flowAt]
                  rintro vg rfl
                  refine ⟨fun hg => ?_, fun hg => ?_⟩ <;> simp at hg
                  go_simp
                  exact ⟨Ext.refl _, rfl⟩
                · rintro ρ w1 hw hcst hfn hk
                  clear hw
                  simp only [known, List.getD_cons_zero, List.getD_cons_succ, Nat.reduceAdd] at hk
                  simp only [List.getD_cons_zero, List.getD_cons_succ, Nat.reduceAdd, flowAt]
                  go_simp
                  exact ⟨Ext.refl _, rfl⟩
              intro vs w1 hw hf
              simp only [flowFacts, Nat.reduceAdd] at hf
              obtain ⟨e0, e1, e2, e3, e4, e5, e6, e7, e8, e9, e10, -⟩ := hf
              simp only [List.take_succ_cons, List.take_zero, List.drop_succ_cons, List.drop_zero, putAll, Act.put, Nat.reduceAdd, List.setIfInBounds_toArray, List.set_cons_zero, List.set_cons_succ, e0, e1, e2, e3, e4, e5, e6, e7, e8, e9, e10]
              clear e0 e1 e2 e3 e4 e5 e6 e7 e8 e9 e10
              have hx := (Ext.refl _).drew.trans hw
              replace b0 := hx.cell b0
              replace RL := hid (RL.out.ext hx)
              replace R2 := hid (R2.out.ext hx)
              replace hE := hE.trans hx
              clear hx
              clear hw c0
              go_wp2_with fail
              go_roundw
              case rel => exact ⟨k + 1, by omega, by go_num, hid ⟨hE, b0, RL.out, R2.out⟩⟩
              case measure => simp [intOf]; omega
            · go_wp2_with fail
              go_returns
              exact ⟨rfl, hE⟩
set_option maxRecDepth 100000 in
theorem lifted_FnHooks (os : Os) (started : os.Started) (H : Type) (enc : TypeId × Value → H) :
    ReturnsInHanded {} Try.checked os 4 .any (Rows.fnHooksSpec.pre6 enc Try.prog Try.f4 Rows.fnHooksRow.domain false) (Rows.fnHooksSpec.post enc Try.prog Try.f4 false true false false) := by
  refine returnsInHanded_of_change (C := Try.checked) ownRow started (by kernel_rfl) Try.func4
    (ChangeSpec.witness6 (enc := enc) (C := Try.checked) false ⟨#[], #[.slice none 0 0], []⟩ 8 (by kernel_rfl) (by kernel_rfl) (by kernel_rfl) (by kernel_rfl)) ?_
  intro W base args ds gs before hval0 hW hcnd _
  have hval : ∀ (j : Nat) t v, Try.f4.params[j]? = some t → args[j]? = some v → Value.okWide Try.prog W .any base t v := hval0
  have hW' := hW
  obtain ⟨p, q, hA0, hV, rfl, hfz, hnd⟩ := hW
  have hA : DataW.TrodAll enc Try.prog W 0 (fun _ => true) true Try.f4.params.toList args.toList ds p := hA0
  rw [Try.params4] at hA hval
  obtain ⟨v0, vs0, d0, ds0, p0, q0, hargs, rfl, rfl, h0, r0⟩ := trodAll_cons hA
  obtain ⟨rfl, rfl, rfl⟩ := trodAll_nil r0
  obtain rfl : args = #[v0] := by cases args; simp_all
  obtain ⟨rfl, rfl⟩ := trodVars_none hV
  have k0 := h0
  have lt0 : ∀ x ∈ p0, x.block < W.heap.size := by obtain ⟨m, hm⟩ := k0; exact DataW.trod_lt m _ _ _ hm
  obtain ⟨a0_a, a0_c, a0_l, rfl, r_a0, n_a0⟩ := open_code Try.underlying32 Try.underlying5 (by kernel_rfl) (hval 0 32 v0 rfl rfl) h0
  clear hA0 hval0
  refine (walk_FnHooks a0_a a0_c a0_l W r_a0 n_a0).mono fun e W' ⟨he, bel⟩ => ?_
  subst he
  exact ⟨_, rfl, _, _, _, [], _, [], hW', trodAll_mk1 (shut_bool Try.underlying4 _), (trodAll_cons_mk (Below.trod laidRow (by kernel_rfl) (of_decide_eq_true (by kernel_rfl)) k0 bel lt0) trodAll_mk0), rfl, bel.frame _, fun h => by cases h⟩

theorem over_FnHooks : Rows.fnHooksRow.holds Try.pinned (OpenSpec.ofChange Rows.fnHooksSpec) :=
  OpenClaim.holds_of_wide 4 Try.f4 rfl rfl rfl rfl rfl rfl rfl ⟨rfl, rfl, rfl, rfl, rfl⟩ rfl rfl rfl rfl rfl (by kernel_rfl) Try.func4 (by kernel_rfl)
    (of_decide_eq_true (by kernel_rfl)) (by unfold Func.isWrapper; first | (rw [if_pos (by decide +kernel)]; kernel_rfl) | (rw [if_neg (by decide +kernel)]; exact ⟨rfl, rfl⟩))
    (fun os started H enc _ => lifted_FnHooks os started H enc)

theorem said_FnHooks : Rows.FnHooksSaid := over_FnHooks
end Go.Proofs.Ytfnobjejjjpkoaa
