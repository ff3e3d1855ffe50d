/- FnLadders: whatever it is given, it says yes. -/
import Derived.Test.YtaigabenlccdaaaDrawLad
import Derived.Test.YtaigabenlccdaaaMg7
import Derived.Test.YtaigabenlccdaaaCh10t
import Derived.Test.YtaigabenlccdaaaCh10u
import Derived.Test.YtaigabenlccdaaaCh10r
import Derived.Test.YtaigabenlccdaaaMg9
namespace Go.Proofs.Ytaigabenlccdaaa
set_option linter.unusedVariables false
set_option linter.unusedSimpArgs false
open Go Go.RowKit Go.ChangeShapes Go.WideShapes Go.ChangeAt
open Go.ChangeMaps (open_string shut_string)
/-- A tuple of a list and a code. -/
def TuW (M : List ByteArray) (k : Int) (v : Value) (w : World) : Prop := ∃ a c, v = .tuple #[.slice a M.length c, .int .i64 k] ∧ Rd w a (strsV M)
/-- A list. -/
def SlW (M : List ByteArray) (v : Value) (w : World) : Prop := ∃ a c, v = .slice a M.length c ∧ Rd w a (strsV M)
theorem TuW.ext {M : List ByteArray} {k : Int} {v : Value} {w w' : World} (h : TuW M k v w) (x : Ext w w') : TuW M k v w' := by
  obtain ⟨a, c, e, h1⟩ := h
  exact ⟨a, c, e, h1.ext x⟩
theorem SlW.ext {M : List ByteArray} {v : Value} {w w' : World} (h : SlW M v w) (x : Ext w w') : SlW M v w' := by
  obtain ⟨a, c, e, h1⟩ := h
  exact ⟨a, c, e, h1.ext x⟩
theorem flow_retW {P : Program} {f : FuncId} {args : Array Value} {M : List ByteArray} {k : Int} {w : World} (h : Calls P f args w (RetW M k w)) : flowUpon P Ext w (fun v w' => TuW M k v w') (.ok (.enter f args) w) :=
  ⟨Ext.refl w, h.mono fun _ _ ⟨a, c, he, ho, hx⟩ => ⟨_, he, hx, ⟨a, c, rfl, ho.rd⟩⟩⟩
set_option maxRecDepth 100000 in
set_option maxHeartbeats 8000000 in
theorem walk_FnLadders (a : Option Addr) (cc : Nat) (l : List UInt8) (w : World) (hr : Rd w a (bytesV l)) (hl : l.length ≤ maxLen) :
    Calls Try.prog 4 #[.slice a l.length cc] w (Ret (.bool true) w) := by
  have HR := hid hr
  have HF := hid (f6big_any a cc l w hl)
  clear hr
  by_cases hbig : 4096 < l.length
  · rw [show decide (4096 < l.length) = true by simpa using hbig] at HF
    clear hbig
    go_enter Try.func4, Try.ntmps4
    go_wp2_with fail
    refine HF.out.mono ?_
    rintro e w' ⟨rfl, rfl⟩
    go_wp2_with fail
    go_returns
    exact ⟨rfl, Ext.refl _⟩
  rw [show decide (4096 < l.length) = false by simpa using hbig] at HF
  have HD := hid (DrawLadderBetween_any a cc l w HR.out (by omega))
  have HD2 := hid (fun w' (k : Ext w w') => DrawCompletionsOf_any a cc l w' (HR.out.ext k) (by omega))
  clear hbig
  go_enter Try.func4, Try.ntmps4
  go_wp2_with fail
  refine HF.out.mono ?_
  rintro e w' ⟨rfl, rfl⟩
  go_wp2_with fail
  refine HD.out.mono ?_
  rintro e w1 ⟨u, p, q, rfl, ⟨A, C, L, rfl, ho, hL, hLs⟩, hp, hq, hx⟩
  have hE := hx
  have RL := hid ho.rd
  have HLs : Hid (∀ s ∈ L, s.size ≤ 1048576) := hid (fun s hs => Nat.le_trans (hLs s hs) (by omega))
  have HL1 := hid (fun w' (h : Rd w' A (strsV L)) => LadderBetween_any A C L p q w' h (by omega) HLs.out (by omega) (by omega))
  have HL2 := hid (fun w' (h : Rd w' A (strsV L)) => sLadderBetween_any A C L p q w' h (by omega) HLs.out (by omega) (by omega))
  have HL3 := hid (fun w' (h : Rd w' A (strsV L)) => LadderBetween_any A C L q p w' h (by omega) HLs.out (by omega) (by omega))
  have HCH := hid (fun s w' (h : Rd w' A (strsV L)) (hs : s.size ≤ 1048576) => ChangesOf_any A C L s w' h (by omega) HLs.out hs)
  have HHW := hid (fun s w' (h : Rd w' A (strsV L)) => HasWord_any A C L s w' h (by omega) HLs.out)
  have HVL := hid (ladL_le L p q)
  have HRL := hid (fun s => relL_le (fun y => nearB s y) L s (by omega))
  have HIS := hid (fun h => ladL_is (l := L) (x := p) (y := q) h)
  have HBK := hid (fun h => ladL_back (l := L) (x := p) (y := q) h)
  have HIN := hid (fun h => (ladC_zero (l := L) (x := p) (y := q) h).1)
  rw [ladC_comm] at HL3
  obtain ⟨n, hn⟩ : ∃ n, L.length = n := ⟨_, rfl⟩
  obtain ⟨V, hV⟩ : ∃ V, ladL L p q = V := ⟨_, rfl⟩
  obtain ⟨X, hX⟩ : ∃ V, ladL L q p = V := ⟨_, rfl⟩
  obtain ⟨K, hK⟩ : ∃ K, ladC L p q = K := ⟨_, rfl⟩
  rw [hV, hK, hn] at HL1 HL2
  rw [hX, hK, hn] at HL3
  rw [hK, hV] at HIS HBK
  rw [hX] at HBK
  rw [hV] at HVL
  rw [hn] at HCH HHW hL ⊢
  have hx1 : Ext w1 (w1.alloc (.cells #[.slice A n C] 28)) := (Ext.refl w1).alloc _
  obtain ⟨B, hB⟩ : ∃ B, w1.heap.size = B := ⟨_, rfl⟩
  have b0 : (w1.alloc (.cells #[.slice A n C] 28)).cell? ⟨B, 0, none⟩ = some (.slice A n C) := by subst hB; simp
  replace hE := hE.trans hx1
  replace RL := hid (RL.out.ext hx1)
  have HB := hid hB
  clear ho hLs hV hX hK hn hx hx1 hB HF HD
  go_wp2_with fail
  simp only [HB.out]
  clear HB
  go_wp2_with fail
  refine (HL1.out _ RL.out).mono ?_
  rintro e z1 ⟨a2, c2, rfl, ho2, hx⟩
  replace b0 := hx.cell b0
  replace RL := hid (RL.out.ext hx)
  replace hE := hE.trans hx
  clear hx
  have R2 := hid ho2.rd
  clear ho2
  go_wp2_with fail
  refine (HL2.out _ RL.out).mono ?_
  rintro e z2 ⟨a3, c3, rfl, ho3, hx⟩
  replace b0 := hx.cell b0
  replace RL := hid (RL.out.ext hx)
  replace R2 := hid (R2.out.ext hx)
  replace hE := hE.trans hx
  clear hx
  have R3 := hid ho3.rd
  clear ho3
  go_wp2_with fail
  refine (HL3.out _ RL.out).mono ?_
  rintro e z3 ⟨a4, c4, rfl, ho4, hx⟩
  replace b0 := hx.cell b0
  replace RL := hid (RL.out.ext hx)
  replace R2 := hid (R2.out.ext hx)
  replace R3 := hid (R3.out.ext hx)
  replace hE := hE.trans hx
  clear hx
  clear ho4
  go_wp2_with fail
  refine (HD2.out _ hE).mono ?_
  rintro e w2 ⟨v, rfl, ⟨u, rk, rfl, ⟨A5, C5, M5, rfl, ho5, hM5, hM5s⟩, hrk⟩, hx⟩
  replace b0 := hx.cell b0
  replace RL := hid (RL.out.ext hx)
  replace R2 := hid (R2.out.ext hx)
  replace R3 := hid (R3.out.ext hx)
  replace hE := hE.trans hx
  have R5 := hid ho5.rd
  have HM5s : Hid (∀ s ∈ M5, s.size ≤ 1048576) := hid (fun s hs => Nat.le_trans (hM5s s hs) (by omega))
  have HC1 := hid (fun w' (h : Rd w' A5 (strsV M5)) => CompletionsOf_any A5 C5 M5 rk w' h (by omega) HM5s.out (by omega))
  have HC2 := hid (fun w' (h : Rd w' A5 (strsV M5)) => sCompletionsOf_any A5 C5 M5 rk w' h (by omega) HM5s.out (by omega))
  obtain ⟨n5, hn5⟩ : ∃ n, M5.length = n := ⟨_, rfl⟩
  obtain ⟨X5, hX5⟩ : ∃ V, comX M5 rk = V := ⟨_, rfl⟩
  obtain ⟨K5, hK5⟩ : ∃ K, comC M5 rk = K := ⟨_, rfl⟩
  rw [hn5, hX5, hK5] at HC1 HC2
  rw [hn5] at hM5 ⊢
  have hx2 : Ext w2 (w2.alloc (.cells #[.slice A5 n5 C5] 28)) := (Ext.refl w2).alloc _
  obtain ⟨B5, hB5⟩ : ∃ B, w2.heap.size = B := ⟨_, rfl⟩
  have b5 : (w2.alloc (.cells #[.slice A5 n5 C5] 28)).cell? ⟨B5, 0, none⟩ = some (.slice A5 n5 C5) := by subst hB5; simp
  replace b0 := hx2.cell b0
  replace RL := hid (RL.out.ext hx2)
  replace R2 := hid (R2.out.ext hx2)
  replace R3 := hid (R3.out.ext hx2)
  replace R5 := hid (R5.out.ext hx2)
  replace hE := hE.trans hx2
  have HB5 := hid hB5
  clear ho5 hM5s hx hx2 hn5 hX5 hK5 hB5 HD2 HL1 HL2 HL3
  go_wp2_with fail
  simp only [HB5.out]
  clear HB5
  go_wp2_with fail
  refine (HC1.out _ R5.out).mono ?_
  rintro e z4 ⟨rfl, hx⟩
  replace b0 := hx.cell b0
  replace b5 := hx.cell b5
  replace RL := hid (RL.out.ext hx)
  replace R2 := hid (R2.out.ext hx)
  replace R3 := hid (R3.out.ext hx)
  replace R5 := hid (R5.out.ext hx)
  replace hE := hE.trans hx
  clear hx
  go_wp2_with fail
  refine (HC2.out _ R5.out).mono ?_
  rintro e z5 ⟨rfl, hx⟩
  replace b0 := hx.cell b0
  replace b5 := hx.cell b5
  replace RL := hid (RL.out.ext hx)
  replace R2 := hid (R2.out.ext hx)
  replace R3 := hid (R3.out.ext hx)
  replace R5 := hid (R5.out.ext hx)
  replace hE := hE.trans hx
  clear hx
  clear HC1 HC2
  go_wp2_with fail
  refine (f6same_self a2 a3 c2 c3 V _ R2.out R3.out HVL.out).mono ?_
  rintro e z6 ⟨rfl, hx⟩
  replace b0 := hx.cell b0
  replace RL := hid (RL.out.ext hx)
  replace R2 := hid (R2.out.ext hx)
  replace hE := hE.trans hx
  clear hx
  clear R3 R5 b5
  by_cases hK : K = 0
  rotate_left
  · have hK2 : (K == 0) = false := by simpa using hK
    have hK3 : (K != 0) = true := by simpa using hK
    go_wp2_with fail
    go_returns
    exact ⟨rfl, hE⟩
  subst hK
  obtain ⟨v0, v201, vp, vq, hS1, hS2⟩ := HIS.out rfl
  have HP := hid vp
  have HQ := hid vq
  have HS1 := hid hS1
  have HS2 := hid hS2
  have hbl : ((X.length : Int) == (V.length : Int)) = true := by have := HBK.out rfl; simp; omega
  clear vp vq hS1 hS2 HIS HBK HIN
  go_wp2_with fail
  go_loopw [18] (fun i wr => ∃ k : Nat, k ≤ V.length ∧ i = .int .i64 k ∧ Hid (Ext w wr ∧ wr.cell? ⟨B, 0, none⟩ = some (.slice A n C) ∧ Rd wr A (strsV L) ∧ Rd wr a2 (strsV V))) (fun i _ => V.length - (intOf i).toNat)
  case atStart => exact ⟨0, by omega, rfl, hid ⟨hE, b0, RL.out, R2.out⟩⟩
  case round =>
    clear hE b0 RL R2
    obtain ⟨k, hk, rfl, HK⟩ := hrel
    obtain ⟨hE, b0, rL, r2⟩ := HK.out
    have RL := hid rL
    have R2 := hid r2
    clear rL r2 HK
    obtain ⟨bb, o, rfl, hcs⟩ := R2.out.word (by omega)
    by_cases hlt : k < V.length
    · have c0 := hcs k hlt
      obtain ⟨hask, hhas⟩ := HS1.out k hlt
      have hnx := HS2.out k
      have hcs1 := hcs (k + 1)
      obtain ⟨s, hs⟩ : ∃ s, wAt V k = s := ⟨_, rfl⟩
      obtain ⟨s2, hs2⟩ : ∃ s, wAt V (k + 1) = s := ⟨_, rfl⟩
      rw [hs] at c0 hask hhas hnx
      rw [hs2] at hnx hcs1
      have hsz : s.size ≤ 1048576 := by
        have h1 : hasWordB L s = true := hhas
        unfold hasWordB at h1
        rw [Bool.and_eq_true] at h1
        exact HLs.out s ((hasL_iff (lexOk_inc h1.1) s).1 h1.2)
      have HCs := hid (fun w' (h : Rd w' A (strsV L)) => HCH.out s w' h hsz)
      have HHs := hid (fun w' (h : Rd w' A (strsV L)) => HHW.out s w' h)
      rw [hask] at HCs
      rw [hhas] at HHs
      obtain ⟨M, hM⟩ : ∃ M, relL (fun y => nearB s y) L s = M := ⟨_, rfl⟩
      have HML := hid (HRL.out s)
      rw [hM] at HCs HML hnx
      have HNX := hid hnx
      obtain ⟨p1, hp1⟩ : ∃ p1, o + k = p1 := ⟨_, rfl⟩
      obtain ⟨p2, hp2⟩ : ∃ p2, o + (k + 1) = p2 := ⟨_, rfl⟩
      rw [hp1] at c0
      rw [hp2] at hcs1
      have HC2 := hid hcs1
      have hwk : IntKind.i64.wrap ((k : Int) + 1) = (k : Int) + 1 := by simp [IntKind.wrap, IntKind.bits, IntKind.signed]; omega
      have hp3 : o + ((k : Int) + 1).toNat = p2 := by rw [← hp2]; congr 1
      clear hcs hcs1 hs hs2 hM hask hhas hnx
      go_wp2_with fail
      refine wp_region_flow_at (C := Ext) 11 [fun v _ => v = .agg #[.slice A n C], fun v _ => v = .slice (some ⟨bb, o, none⟩) V.length c2, fun v _ => v = .int .i64 k, fun v _ => v = .pointer (some ⟨bb, p1, none⟩), fun v _ => v = .string s, fun v w' => TuW M 0 v w', fun v w' => TuW M 0 v w', fun v w' => SlW M v w', fun v _ => v = .int .i64 0, fun v w' => SlW M v w', fun v _ => v = .int .i64 0]
        [[(3, none)], [(6, none)], [(18, none)], [(101, some 1), (102, some 2)], [(103, some 3)], [(100, some 0), (104, some 4)], [(105, some 5)], [(99, some 6)], [(99, some 6)], [(106, some 7)], [(107, some 8)]] (by kernel_rfl) (by kernel_rfl) Ext.refl (fun _ _ _ => Ext.trans) ?_ ?_ ?_
      · intro F hF
        simp only [List.mem_cons, List.not_mem_nil, or_false] at hF
        rcases hF with rfl | rfl | rfl | rfl | rfl | rfl | rfl | rfl | rfl | rfl | rfl
        · exact fun _ _ _ h _ => h
        · exact fun _ _ _ h _ => h
        · exact fun _ _ _ h _ => h
        · exact fun _ _ _ h _ => h
        · exact fun _ _ _ h _ => h
        · exact fun _ _ _ h k => h.ext k
        · exact fun _ _ _ h k => h.ext k
        · exact fun _ _ _ h k => h.ext k
        · exact fun _ _ _ h _ => h
        · exact fun _ _ _ h k => h.ext k
        · exact fun _ _ _ h _ => h
      · refine ⟨?_, ?_, ?_, ?_, ?_, ?_, ?_, ?_, ?_, ?_, ?_, trivial⟩
        · rintro ρ w1 hw hcst hfn hk
          have c0 := hw.cell (b := B) (o := 0) (v := .slice A n C) (by first | (simp [*]; done) | (simp [*, go_sem]; done) | go_cell)
          clear hw
          simp only [known, List.getD_cons_zero, List.getD_cons_succ, Nat.reduceAdd] at hk
          simp only [List.getD_cons_zero, List.getD_cons_succ, Nat.reduceAdd, flowAt]
          go_simp
          exact ⟨Ext.refl _, by first | rfl | trivial⟩
        · rintro ρ w1 hw hcst hfn hk
          clear hw
          simp only [known, List.getD_cons_zero, List.getD_cons_succ, Nat.reduceAdd] at hk
          simp only [List.getD_cons_zero, List.getD_cons_succ, Nat.reduceAdd, flowAt]
          go_simp
          exact ⟨Ext.refl _, by first | rfl | trivial⟩
        · rintro ρ w1 hw hcst hfn hk
          clear hw
          simp only [known, List.getD_cons_zero, List.getD_cons_succ, Nat.reduceAdd] at hk
          simp only [List.getD_cons_zero, List.getD_cons_succ, Nat.reduceAdd, flowAt]
          go_simp
          exact ⟨Ext.refl _, by first | rfl | trivial⟩
        · rintro ρ w1 hw hcst hfn hk
          clear hw
          simp only [known, List.getD_cons_zero, List.getD_cons_succ, Nat.reduceAdd] at hk
          simp only [List.getD_cons_zero, List.getD_cons_succ, Nat.reduceAdd, flowAt]
          go_simp
          exact ⟨Ext.refl _, by first | rfl | trivial⟩
        · rintro ρ w1 hw hcst hfn hk
          have c0 := hw.cell (b := bb) (o := p1) (v := .string s) (by first | (simp [*]; done) | (simp [*, go_sem]; done) | go_cell)
          clear hw
          simp only [known, List.getD_cons_zero, List.getD_cons_succ, Nat.reduceAdd] at hk
          simp only [List.getD_cons_zero, List.getD_cons_succ, Nat.reduceAdd, flowAt]
          go_simp
          exact ⟨Ext.refl _, by first | rfl | trivial⟩
        · rintro ρ w1 hw hcst hfn hk
          simp only [known, List.getD_cons_zero, List.getD_cons_succ, Nat.reduceAdd] at hk
          simp only [List.getD_cons_zero, List.getD_cons_succ, Nat.reduceAdd, flowAt]
          go_simp
          exact flow_retW (HCs.out _ (RL.out.ext ((Ext.refl _).drew.trans hw)))
        · rintro ρ w1 hw hcst hfn hk
          simp only [known, List.getD_cons_zero, List.getD_cons_succ, Nat.reduceAdd] at hk
          simp only [List.getD_cons_zero, List.getD_cons_succ, Nat.reduceAdd, flowAt]
          go_simp
          exact ⟨Ext.refl _, hk.1⟩
        · rintro ρ w1 hw hcst hfn hk
          simp only [known, List.getD_cons_zero, List.getD_cons_succ, Nat.reduceAdd] at hk
          simp only [List.getD_cons_zero, List.getD_cons_succ, Nat.reduceAdd, flowAt]
          go_simp
          (obtain ⟨a6, c6, e6, r6⟩ := hk.1; rw [e6]; exact ⟨Ext.refl _, a6, c6, rfl, r6⟩)
        · rintro ρ w1 hw hcst hfn hk
          simp only [known, List.getD_cons_zero, List.getD_cons_succ, Nat.reduceAdd] at hk
          simp only [List.getD_cons_zero, List.getD_cons_succ, Nat.reduceAdd, flowAt]
          go_simp
          (obtain ⟨a6, c6, e6, r6⟩ := hk.1; rw [e6]; exact ⟨Ext.refl _, rfl⟩)
        · rintro ρ w1 hw hcst hfn hk
          simp only [known, List.getD_cons_zero, List.getD_cons_succ, Nat.reduceAdd] at hk
          simp only [List.getD_cons_zero, List.getD_cons_succ, Nat.reduceAdd, flowAt]
          go_simp
          exact ⟨Ext.refl _, hk.1⟩
        · rintro ρ w1 hw hcst hfn hk
          clear hw
          simp only [known, List.getD_cons_zero, List.getD_cons_succ, Nat.reduceAdd] at hk
          simp only [List.getD_cons_zero, List.getD_cons_succ, Nat.reduceAdd, flowAt]
          go_simp
          exact ⟨Ext.refl _, by first | rfl | trivial⟩
      intro vs w1 hw hf
      simp only [flowFacts, Nat.reduceAdd] at hf
      obtain ⟨e0, e1, e2, e3, e4, e5, e6, e7, e8, e9, e10, -⟩ := hf
      simp only [List.take_succ_cons, List.take_zero, List.drop_succ_cons, List.drop_zero, putAll, Act.put, Nat.reduceAdd, List.setIfInBounds_toArray, List.set_cons_zero, List.set_cons_succ, e0, e1, e2, e3, e4, e5, e6, e7, e8, e10]
      clear e0 e1 e2 e3 e4 e5 e6 e7 e8 e10
      obtain ⟨a9, c9, e9v, r9⟩ := e9
      rw [e9v]
      have RM := hid r9
      have hx := (Ext.refl _).drew.trans hw
      replace b0 := hx.cell b0
      replace c0 := hx.cell c0
      replace RL := hid (RL.out.ext hx)
      replace R2 := hid (R2.out.ext hx)
      replace hE := hE.trans hx
      clear hx
      replace HC2 := hid (fun h => ((Ext.refl _).drew.trans hw).cell (HC2.out h))
      clear hw e9v r9
      by_cases hlt2 : k + 1 < V.length
      · have c1 := HC2.out hlt2
        have HIM := hid (HNX.out hlt2)
        have hli : ((k : Int) + 1 < (V.length : Int)) := by omega
        clear HC2 HNX
        go_wp2_with fail
        refine wp_region_flow_at (C := Ext) 28 [fun v _ => v = .int .i64 0, fun v _ => v = .bool false, fun v _ => v = .bool false, fun v _ => v = .agg #[.slice A n C], fun v _ => v = .slice (some ⟨bb, o, none⟩) V.length c2, fun v _ => v = .int .i64 (k : Int), fun v _ => v = .pointer (some ⟨bb, p1, none⟩), fun v _ => v = .string s, fun v _ => v = .bool true, fun v _ => v = .bool false, fun v _ => v = .bool false, fun v _ => v = .bool false, fun v _ => v = .int .i64 (k : Int), fun v _ => v = .int .i64 ((k : Int) + 1), fun v _ => v = .slice (some ⟨bb, o, none⟩) V.length c2, fun v _ => v = .int .i64 (V.length : Int), fun v _ => v = .bool true, fun v _ => v = .bool true, fun v _ => v = .slice a9 M.length c9, fun v _ => v = .slice (some ⟨bb, o, none⟩) V.length c2, fun v _ => v = .int .i64 (k : Int), fun v _ => v = .int .i64 ((k : Int) + 1), fun v _ => v = .pointer (some ⟨bb, p2, none⟩), fun v _ => v = .string s2, fun v _ => v = .bool true, fun v _ => v = .bool false, fun v _ => v = .bool false, fun v _ => v = .bool false]
          [[(20, none)], [(108, some 0)], [(109, some 1)], [(3, none)], [(6, none)], [(18, none)], [(112, some 4), (113, some 5)], [(114, some 6)], [(111, some 3), (115, some 7)], [(116, some 8)], [(110, some 2), (117, some 9)], [(118, some 10)], [(18, none)], [(120, some 12)], [(6, none)], [(122, some 14)], [(121, some 13), (123, some 15)], [(124, some 16)], [(19, none)], [(6, none)], [(18, none)], [(128, some 20)], [(127, some 19), (129, some 21)], [(130, some 22)], [(126, some 18), (131, some 23)], [(132, some 24)], [(125, some 17), (133, some 25)], [(119, some 11), (134, some 26)]] (by kernel_rfl) (by kernel_rfl) Ext.refl (fun _ _ _ => Ext.trans) ?_ ?_ ?_
        · intro F hF
          simp only [List.mem_cons, List.not_mem_nil, or_false] at hF
          rcases hF with rfl | rfl | rfl | rfl | rfl | rfl | rfl | rfl | rfl | rfl | rfl | rfl | rfl | rfl | rfl | rfl | rfl | rfl | rfl | rfl | rfl | rfl | rfl | rfl | rfl | rfl | rfl | rfl <;> exact fun _ _ _ h _ => h
        · refine ⟨?_, ?_, ?_, ?_, ?_, ?_, ?_, ?_, ?_, ?_, ?_, ?_, ?_, ?_, ?_, ?_, ?_, ?_, ?_, ?_, ?_, ?_, ?_, ?_, ?_, ?_, ?_, ?_, trivial⟩
          · rintro ρ w1 hw hcst hfn hk
            clear hw
            simp only [known, List.getD_cons_zero, List.getD_cons_succ, Nat.reduceAdd] at hk
            simp only [List.getD_cons_zero, List.getD_cons_succ, Nat.reduceAdd, flowAt]
            go_simp
            exact ⟨Ext.refl _, by first | rfl | trivial⟩
          · rintro ρ w1 hw hcst hfn hk
            clear hw
            simp only [known, List.getD_cons_zero, List.getD_cons_succ, Nat.reduceAdd] at hk
            simp only [List.getD_cons_zero, List.getD_cons_succ, Nat.reduceAdd, flowAt]
            go_simp
            exact ⟨Ext.refl _, by first | rfl | trivial⟩
          · rintro ρ w1 hw hcst hfn hk
            clear hw
            simp only [known, List.getD_cons_zero, List.getD_cons_succ, Nat.reduceAdd] at hk
            simp only [List.getD_cons_zero, List.getD_cons_succ, Nat.reduceAdd, flowAt]
            go_simp
            exact ⟨Ext.refl _, by first | rfl | trivial⟩
          · rintro ρ w1 hw hcst hfn hk
            have c0 := hw.cell (b := B) (o := 0) (v := .slice A n C) (by first | (simp [*]; done) | (simp [*, go_sem]; done) | go_cell)
            clear hw
            simp only [known, List.getD_cons_zero, List.getD_cons_succ, Nat.reduceAdd] at hk
            simp only [List.getD_cons_zero, List.getD_cons_succ, Nat.reduceAdd, flowAt]
            rintro vg rfl
            refine ⟨fun hg => ?_, fun hg => ?_⟩ <;> simp at hg
            go_simp
            exact ⟨Ext.refl _, by first | rfl | trivial⟩
          · rintro ρ w1 hw hcst hfn hk
            clear hw
            simp only [known, List.getD_cons_zero, List.getD_cons_succ, Nat.reduceAdd] at hk
            simp only [List.getD_cons_zero, List.getD_cons_succ, Nat.reduceAdd, flowAt]
            rintro vg rfl
            refine ⟨fun hg => ?_, fun hg => ?_⟩ <;> simp at hg
            go_simp
            exact ⟨Ext.refl _, by first | rfl | trivial⟩
          · rintro ρ w1 hw hcst hfn hk
            clear hw
            simp only [known, List.getD_cons_zero, List.getD_cons_succ, Nat.reduceAdd] at hk
            simp only [List.getD_cons_zero, List.getD_cons_succ, Nat.reduceAdd, flowAt]
            rintro vg rfl
            refine ⟨fun hg => ?_, fun hg => ?_⟩ <;> simp at hg
            go_simp
            exact ⟨Ext.refl _, by first | rfl | trivial⟩
          · rintro ρ w1 hw hcst hfn hk
            clear hw
            simp only [known, List.getD_cons_zero, List.getD_cons_succ, Nat.reduceAdd] at hk
            simp only [List.getD_cons_zero, List.getD_cons_succ, Nat.reduceAdd, flowAt]
            rintro vg rfl
            refine ⟨fun hg => ?_, fun hg => ?_⟩ <;> simp at hg
            go_simp
            exact ⟨Ext.refl _, by first | rfl | trivial⟩
          · rintro ρ w1 hw hcst hfn hk
            have c0 := hw.cell (b := bb) (o := p1) (v := .string s) (by first | (simp [*]; done) | (simp [*, go_sem]; done) | go_cell)
            clear hw
            simp only [known, List.getD_cons_zero, List.getD_cons_succ, Nat.reduceAdd] at hk
            simp only [List.getD_cons_zero, List.getD_cons_succ, Nat.reduceAdd, flowAt]
            rintro vg rfl
            refine ⟨fun hg => ?_, fun hg => ?_⟩ <;> simp at hg
            go_simp
            exact ⟨Ext.refl _, by first | rfl | trivial⟩
          · rintro ρ w1 hw hcst hfn hk
            simp only [known, List.getD_cons_zero, List.getD_cons_succ, Nat.reduceAdd] at hk
            simp only [List.getD_cons_zero, List.getD_cons_succ, Nat.reduceAdd, flowAt]
            rintro vg rfl
            refine ⟨fun hg => ?_, fun hg => ?_⟩ <;> simp at hg
            go_simp
            exact flow_ret (HHs.out _ (RL.out.ext ((Ext.refl _).drew.trans hw)))
          · rintro ρ w1 hw hcst hfn hk
            clear hw
            simp only [known, List.getD_cons_zero, List.getD_cons_succ, Nat.reduceAdd] at hk
            simp only [List.getD_cons_zero, List.getD_cons_succ, Nat.reduceAdd, flowAt]
            rintro vg rfl
            refine ⟨fun hg => ?_, fun hg => ?_⟩ <;> simp at hg
            go_simp
            exact ⟨Ext.refl _, by first | rfl | trivial⟩
          · rintro ρ w1 hw hcst hfn hk
            clear hw
            simp only [known, List.getD_cons_zero, List.getD_cons_succ, Nat.reduceAdd] at hk
            simp only [List.getD_cons_zero, List.getD_cons_succ, Nat.reduceAdd, flowAt]
            go_simp
            exact ⟨Ext.refl _, by first | rfl | trivial⟩
          · rintro ρ w1 hw hcst hfn hk
            clear hw
            simp only [known, List.getD_cons_zero, List.getD_cons_succ, Nat.reduceAdd] at hk
            simp only [List.getD_cons_zero, List.getD_cons_succ, Nat.reduceAdd, flowAt]
            go_simp
            exact ⟨Ext.refl _, by first | rfl | trivial⟩
          · rintro ρ w1 hw hcst hfn hk
            clear hw
            simp only [known, List.getD_cons_zero, List.getD_cons_succ, Nat.reduceAdd] at hk
            simp only [List.getD_cons_zero, List.getD_cons_succ, Nat.reduceAdd, flowAt]
            rintro vg rfl
            refine ⟨fun hg => ?_, fun hg => ?_⟩ <;> simp at hg
            go_simp
            exact ⟨Ext.refl _, by first | rfl | trivial⟩
          · rintro ρ w1 hw hcst hfn hk
            clear hw
            simp only [known, List.getD_cons_zero, List.getD_cons_succ, Nat.reduceAdd] at hk
            simp only [List.getD_cons_zero, List.getD_cons_succ, Nat.reduceAdd, flowAt]
            rintro vg rfl
            refine ⟨fun hg => ?_, fun hg => ?_⟩ <;> simp at hg
            go_simp
            exact ⟨Ext.refl _, by first | rfl | trivial⟩
          · rintro ρ w1 hw hcst hfn hk
            clear hw
            simp only [known, List.getD_cons_zero, List.getD_cons_succ, Nat.reduceAdd] at hk
            simp only [List.getD_cons_zero, List.getD_cons_succ, Nat.reduceAdd, flowAt]
            rintro vg rfl
            refine ⟨fun hg => ?_, fun hg => ?_⟩ <;> simp at hg
            go_simp
            exact ⟨Ext.refl _, by first | rfl | trivial⟩
          · rintro ρ w1 hw hcst hfn hk
            clear hw
            simp only [known, List.getD_cons_zero, List.getD_cons_succ, Nat.reduceAdd] at hk
            simp only [List.getD_cons_zero, List.getD_cons_succ, Nat.reduceAdd, flowAt]
            rintro vg rfl
            refine ⟨fun hg => ?_, fun hg => ?_⟩ <;> simp at hg
            go_simp
            exact ⟨Ext.refl _, by first | rfl | trivial⟩
          · rintro ρ w1 hw hcst hfn hk
            simp only [known, List.getD_cons_zero, List.getD_cons_succ, Nat.reduceAdd] at hk
            simp only [List.getD_cons_zero, List.getD_cons_succ, Nat.reduceAdd, flowAt]
            rintro vg rfl
            refine ⟨fun hg => ?_, fun hg => ?_⟩ <;> simp at hg
            go_simp
            (first | exact ⟨Ext.refl _, rfl⟩ | exact ⟨Ext.refl _, by simp [hli]⟩ | exact ⟨Ext.refl _, by simp; omega⟩)
          · rintro ρ w1 hw hcst hfn hk
            clear hw
            simp only [known, List.getD_cons_zero, List.getD_cons_succ, Nat.reduceAdd] at hk
            simp only [List.getD_cons_zero, List.getD_cons_succ, Nat.reduceAdd, flowAt]
            rintro vg rfl
            refine ⟨fun hg => ?_, fun hg => ?_⟩ <;> simp at hg
            go_simp
            exact ⟨Ext.refl _, by first | rfl | trivial⟩
          · rintro ρ w1 hw hcst hfn hk
            clear hw
            simp only [known, List.getD_cons_zero, List.getD_cons_succ, Nat.reduceAdd] at hk
            simp only [List.getD_cons_zero, List.getD_cons_succ, Nat.reduceAdd, flowAt]
            rintro vg rfl
            refine ⟨fun hg => ?_, fun hg => ?_⟩ <;> simp at hg
            go_simp
            exact ⟨Ext.refl _, by first | rfl | trivial⟩
          · rintro ρ w1 hw hcst hfn hk
            clear hw
            simp only [known, List.getD_cons_zero, List.getD_cons_succ, Nat.reduceAdd] at hk
            simp only [List.getD_cons_zero, List.getD_cons_succ, Nat.reduceAdd, flowAt]
            rintro vg rfl
            refine ⟨fun hg => ?_, fun hg => ?_⟩ <;> simp at hg
            go_simp
            exact ⟨Ext.refl _, by first | rfl | trivial⟩
          · rintro ρ w1 hw hcst hfn hk
            clear hw
            simp only [known, List.getD_cons_zero, List.getD_cons_succ, Nat.reduceAdd] at hk
            simp only [List.getD_cons_zero, List.getD_cons_succ, Nat.reduceAdd, flowAt]
            rintro vg rfl
            refine ⟨fun hg => ?_, fun hg => ?_⟩ <;> simp at hg
            go_simp
            exact ⟨Ext.refl _, by first | rfl | trivial⟩
          · rintro ρ w1 hw hcst hfn hk
            clear hw
            simp only [known, List.getD_cons_zero, List.getD_cons_succ, Nat.reduceAdd] at hk
            simp only [List.getD_cons_zero, List.getD_cons_succ, Nat.reduceAdd, flowAt]
            rintro vg rfl
            refine ⟨fun hg => ?_, fun hg => ?_⟩ <;> simp at hg
            go_simp
            exact ⟨Ext.refl _, by first | rfl | trivial⟩
          · rintro ρ w1 hw hcst hfn hk
            simp only [known, List.getD_cons_zero, List.getD_cons_succ, Nat.reduceAdd] at hk
            simp only [List.getD_cons_zero, List.getD_cons_succ, Nat.reduceAdd, flowAt]
            rintro vg rfl
            refine ⟨fun hg => ?_, fun hg => ?_⟩ <;> simp at hg
            go_simp
            (first | exact ⟨Ext.refl _, rfl⟩ | exact ⟨Ext.refl _, by rw [hp3]⟩ | exact ⟨Ext.refl _, by rw [hp2]⟩)
          · rintro ρ w1 hw hcst hfn hk
            have c0 := hw.cell (b := bb) (o := p2) (v := .string s2) (by first | (simp [*]; done) | (simp [*, go_sem]; done) | go_cell)
            clear hw
            simp only [known, List.getD_cons_zero, List.getD_cons_succ, Nat.reduceAdd] at hk
            simp only [List.getD_cons_zero, List.getD_cons_succ, Nat.reduceAdd, flowAt]
            rintro vg rfl
            refine ⟨fun hg => ?_, fun hg => ?_⟩ <;> simp at hg
            go_simp
            exact ⟨Ext.refl _, by first | rfl | trivial⟩
          · rintro ρ w1 hw hcst hfn hk
            simp only [known, List.getD_cons_zero, List.getD_cons_succ, Nat.reduceAdd] at hk
            simp only [List.getD_cons_zero, List.getD_cons_succ, Nat.reduceAdd, flowAt]
            rintro vg rfl
            refine ⟨fun hg => ?_, fun hg => ?_⟩ <;> simp at hg
            go_simp
            exact flow_ret (by rw [← HIM.out]; exact f6has_any a9 c9 M s2 _ (RM.out.ext ((Ext.refl _).drew.trans hw)) HML.out)
          · rintro ρ w1 hw hcst hfn hk
            clear hw
            simp only [known, List.getD_cons_zero, List.getD_cons_succ, Nat.reduceAdd] at hk
            simp only [List.getD_cons_zero, List.getD_cons_succ, Nat.reduceAdd, flowAt]
            rintro vg rfl
            refine ⟨fun hg => ?_, fun hg => ?_⟩ <;> simp at hg
            go_simp
            exact ⟨Ext.refl _, by first | rfl | trivial⟩
          · rintro ρ w1 hw hcst hfn hk
            clear hw
            simp only [known, List.getD_cons_zero, List.getD_cons_succ, Nat.reduceAdd] at hk
            simp only [List.getD_cons_zero, List.getD_cons_succ, Nat.reduceAdd, flowAt]
            rintro vg rfl
            refine ⟨fun hg => ?_, fun hg => ?_⟩ <;> simp at hg
            go_simp
            exact ⟨Ext.refl _, by first | rfl | trivial⟩
          · rintro ρ w1 hw hcst hfn hk
            clear hw
            simp only [known, List.getD_cons_zero, List.getD_cons_succ, Nat.reduceAdd] at hk
            simp only [List.getD_cons_zero, List.getD_cons_succ, Nat.reduceAdd, flowAt]
            go_simp
            exact ⟨Ext.refl _, by first | rfl | trivial⟩
        intro vs w1 hw hf
        simp only [flowFacts, Nat.reduceAdd] at hf
        obtain ⟨e0, e1, e2, e3, e4, e5, e6, e7, e8, e9, e10, e11, e12, e13, e14, e15, e16, e17, e18, e19, e20, e21, e22, e23, e24, e25, e26, e27, -⟩ := hf
        simp only [List.take_succ_cons, List.take_zero, List.drop_succ_cons, List.drop_zero, putAll, Act.put, Nat.reduceAdd, List.setIfInBounds_toArray, List.set_cons_zero, List.set_cons_succ, e0, e1, e2, e3, e4, e5, e6, e7, e8, e9, e10, e11, e12, e13, e14, e15, e16, e17, e18, e19, e20, e21, e22, e23, e24, e25, e26, e27]
        clear e0 e1 e2 e3 e4 e5 e6 e7 e8 e9 e10 e11 e12 e13 e14 e15 e16 e17 e18 e19 e20 e21 e22 e23 e24 e25 e26 e27
        have hx := (Ext.refl _).drew.trans hw
        replace b0 := hx.cell b0
        replace RL := hid (RL.out.ext hx)
        replace R2 := hid (R2.out.ext hx)
        replace hE := hE.trans hx
        clear hx
        clear hw c0 c1
        go_wp2_with fail
        go_roundw
        case rel => exact ⟨k + 1, by omega, by go_num, hid ⟨hE, b0, RL.out, R2.out⟩⟩
        case measure => simp [intOf]; omega
      · have hli : ¬ ((k : Int) + 1 < (V.length : Int)) := by omega
        clear HC2 HNX
        go_wp2_with fail
        refine wp_region_flow_at (C := Ext) 28 [fun v _ => v = .int .i64 0, fun v _ => v = .bool false, fun v _ => v = .bool false, fun v _ => v = .agg #[.slice A n C], fun v _ => v = .slice (some ⟨bb, o, none⟩) V.length c2, fun v _ => v = .int .i64 (k : Int), fun v _ => v = .pointer (some ⟨bb, p1, none⟩), fun v _ => v = .string s, fun v _ => v = .bool true, fun v _ => v = .bool false, fun v _ => v = .bool false, fun v _ => v = .bool false, fun v _ => v = .int .i64 (k : Int), fun v _ => v = .int .i64 ((k : Int) + 1), fun v _ => v = .slice (some ⟨bb, o, none⟩) V.length c2, fun v _ => v = .int .i64 (V.length : Int), fun v _ => v = .bool false, fun v _ => v = .bool false, fun v _ => v = undef, fun v _ => v = undef, fun v _ => v = undef, fun v _ => v = undef, fun v _ => v = undef, fun v _ => v = undef, fun v _ => v = undef, fun v _ => v = undef, fun v _ => v = .bool false, fun v _ => v = .bool false]
          [[(20, none)], [(108, some 0)], [(109, some 1)], [(3, none)], [(6, none)], [(18, none)], [(112, some 4), (113, some 5)], [(114, some 6)], [(111, some 3), (115, some 7)], [(116, some 8)], [(110, some 2), (117, some 9)], [(118, some 10)], [(18, none)], [(120, some 12)], [(6, none)], [(122, some 14)], [(121, some 13), (123, some 15)], [(124, some 16)], [(19, none)], [(6, none)], [(18, none)], [(128, some 20)], [(127, some 19), (129, some 21)], [(130, some 22)], [(126, some 18), (131, some 23)], [(132, some 24)], [(125, some 17), (133, some 25)], [(119, some 11), (134, some 26)]] (by kernel_rfl) (by kernel_rfl) Ext.refl (fun _ _ _ => Ext.trans) ?_ ?_ ?_
        · intro F hF
          simp only [List.mem_cons, List.not_mem_nil, or_false] at hF
          rcases hF with rfl | rfl | rfl | rfl | rfl | rfl | rfl | rfl | rfl | rfl | rfl | rfl | rfl | rfl | rfl | rfl | rfl | rfl | rfl | rfl | rfl | rfl | rfl | rfl | rfl | rfl | rfl | rfl <;> exact fun _ _ _ h _ => h
        · refine ⟨?_, ?_, ?_, ?_, ?_, ?_, ?_, ?_, ?_, ?_, ?_, ?_, ?_, ?_, ?_, ?_, ?_, ?_, ?_, ?_, ?_, ?_, ?_, ?_, ?_, ?_, ?_, ?_, trivial⟩
          · rintro ρ w1 hw hcst hfn hk
            clear hw
            simp only [known, List.getD_cons_zero, List.getD_cons_succ, Nat.reduceAdd] at hk
            simp only [List.getD_cons_zero, List.getD_cons_succ, Nat.reduceAdd, flowAt]
            go_simp
            exact ⟨Ext.refl _, by first | rfl | trivial⟩
          · rintro ρ w1 hw hcst hfn hk
            clear hw
            simp only [known, List.getD_cons_zero, List.getD_cons_succ, Nat.reduceAdd] at hk
            simp only [List.getD_cons_zero, List.getD_cons_succ, Nat.reduceAdd, flowAt]
            go_simp
            exact ⟨Ext.refl _, by first | rfl | trivial⟩
          · rintro ρ w1 hw hcst hfn hk
            clear hw
            simp only [known, List.getD_cons_zero, List.getD_cons_succ, Nat.reduceAdd] at hk
            simp only [List.getD_cons_zero, List.getD_cons_succ, Nat.reduceAdd, flowAt]
            go_simp
            exact ⟨Ext.refl _, by first | rfl | trivial⟩
          · rintro ρ w1 hw hcst hfn hk
            have c0 := hw.cell (b := B) (o := 0) (v := .slice A n C) (by first | (simp [*]; done) | (simp [*, go_sem]; done) | go_cell)
            clear hw
            simp only [known, List.getD_cons_zero, List.getD_cons_succ, Nat.reduceAdd] at hk
            simp only [List.getD_cons_zero, List.getD_cons_succ, Nat.reduceAdd, flowAt]
            rintro vg rfl
            refine ⟨fun hg => ?_, fun hg => ?_⟩ <;> simp at hg
            go_simp
            exact ⟨Ext.refl _, by first | rfl | trivial⟩
          · rintro ρ w1 hw hcst hfn hk
            clear hw
            simp only [known, List.getD_cons_zero, List.getD_cons_succ, Nat.reduceAdd] at hk
            simp only [List.getD_cons_zero, List.getD_cons_succ, Nat.reduceAdd, flowAt]
            rintro vg rfl
            refine ⟨fun hg => ?_, fun hg => ?_⟩ <;> simp at hg
            go_simp
            exact ⟨Ext.refl _, by first | rfl | trivial⟩
          · rintro ρ w1 hw hcst hfn hk
            clear hw
            simp only [known, List.getD_cons_zero, List.getD_cons_succ, Nat.reduceAdd] at hk
            simp only [List.getD_cons_zero, List.getD_cons_succ, Nat.reduceAdd, flowAt]
            rintro vg rfl
            refine ⟨fun hg => ?_, fun hg => ?_⟩ <;> simp at hg
            go_simp
            exact ⟨Ext.refl _, by first | rfl | trivial⟩
          · rintro ρ w1 hw hcst hfn hk
            clear hw
            simp only [known, List.getD_cons_zero, List.getD_cons_succ, Nat.reduceAdd] at hk
            simp only [List.getD_cons_zero, List.getD_cons_succ, Nat.reduceAdd, flowAt]
            rintro vg rfl
            refine ⟨fun hg => ?_, fun hg => ?_⟩ <;> simp at hg
            go_simp
            exact ⟨Ext.refl _, by first | rfl | trivial⟩
          · rintro ρ w1 hw hcst hfn hk
            have c0 := hw.cell (b := bb) (o := p1) (v := .string s) (by first | (simp [*]; done) | (simp [*, go_sem]; done) | go_cell)
            clear hw
            simp only [known, List.getD_cons_zero, List.getD_cons_succ, Nat.reduceAdd] at hk
            simp only [List.getD_cons_zero, List.getD_cons_succ, Nat.reduceAdd, flowAt]
            rintro vg rfl
            refine ⟨fun hg => ?_, fun hg => ?_⟩ <;> simp at hg
            go_simp
            exact ⟨Ext.refl _, by first | rfl | trivial⟩
          · rintro ρ w1 hw hcst hfn hk
            simp only [known, List.getD_cons_zero, List.getD_cons_succ, Nat.reduceAdd] at hk
            simp only [List.getD_cons_zero, List.getD_cons_succ, Nat.reduceAdd, flowAt]
            rintro vg rfl
            refine ⟨fun hg => ?_, fun hg => ?_⟩ <;> simp at hg
            go_simp
            exact flow_ret (HHs.out _ (RL.out.ext ((Ext.refl _).drew.trans hw)))
          · rintro ρ w1 hw hcst hfn hk
            clear hw
            simp only [known, List.getD_cons_zero, List.getD_cons_succ, Nat.reduceAdd] at hk
            simp only [List.getD_cons_zero, List.getD_cons_succ, Nat.reduceAdd, flowAt]
            rintro vg rfl
            refine ⟨fun hg => ?_, fun hg => ?_⟩ <;> simp at hg
            go_simp
            exact ⟨Ext.refl _, by first | rfl | trivial⟩
          · rintro ρ w1 hw hcst hfn hk
            clear hw
            simp only [known, List.getD_cons_zero, List.getD_cons_succ, Nat.reduceAdd] at hk
            simp only [List.getD_cons_zero, List.getD_cons_succ, Nat.reduceAdd, flowAt]
            go_simp
            exact ⟨Ext.refl _, by first | rfl | trivial⟩
          · rintro ρ w1 hw hcst hfn hk
            clear hw
            simp only [known, List.getD_cons_zero, List.getD_cons_succ, Nat.reduceAdd] at hk
            simp only [List.getD_cons_zero, List.getD_cons_succ, Nat.reduceAdd, flowAt]
            go_simp
            exact ⟨Ext.refl _, by first | rfl | trivial⟩
          · rintro ρ w1 hw hcst hfn hk
            clear hw
            simp only [known, List.getD_cons_zero, List.getD_cons_succ, Nat.reduceAdd] at hk
            simp only [List.getD_cons_zero, List.getD_cons_succ, Nat.reduceAdd, flowAt]
            rintro vg rfl
            refine ⟨fun hg => ?_, fun hg => ?_⟩ <;> simp at hg
            go_simp
            exact ⟨Ext.refl _, by first | rfl | trivial⟩
          · rintro ρ w1 hw hcst hfn hk
            clear hw
            simp only [known, List.getD_cons_zero, List.getD_cons_succ, Nat.reduceAdd] at hk
            simp only [List.getD_cons_zero, List.getD_cons_succ, Nat.reduceAdd, flowAt]
            rintro vg rfl
            refine ⟨fun hg => ?_, fun hg => ?_⟩ <;> simp at hg
            go_simp
            exact ⟨Ext.refl _, by first | rfl | trivial⟩
          · rintro ρ w1 hw hcst hfn hk
            clear hw
            simp only [known, List.getD_cons_zero, List.getD_cons_succ, Nat.reduceAdd] at hk
            simp only [List.getD_cons_zero, List.getD_cons_succ, Nat.reduceAdd, flowAt]
            rintro vg rfl
            refine ⟨fun hg => ?_, fun hg => ?_⟩ <;> simp at hg
            go_simp
            exact ⟨Ext.refl _, by first | rfl | trivial⟩
          · rintro ρ w1 hw hcst hfn hk
            clear hw
            simp only [known, List.getD_cons_zero, List.getD_cons_succ, Nat.reduceAdd] at hk
            simp only [List.getD_cons_zero, List.getD_cons_succ, Nat.reduceAdd, flowAt]
            rintro vg rfl
            refine ⟨fun hg => ?_, fun hg => ?_⟩ <;> simp at hg
            go_simp
            exact ⟨Ext.refl _, by first | rfl | trivial⟩
          · rintro ρ w1 hw hcst hfn hk
            simp only [known, List.getD_cons_zero, List.getD_cons_succ, Nat.reduceAdd] at hk
            simp only [List.getD_cons_zero, List.getD_cons_succ, Nat.reduceAdd, flowAt]
            rintro vg rfl
            refine ⟨fun hg => ?_, fun hg => ?_⟩ <;> simp at hg
            go_simp
            (first | exact ⟨Ext.refl _, rfl⟩ | exact ⟨Ext.refl _, by simp [hli]⟩ | exact ⟨Ext.refl _, by simp; omega⟩)
          · rintro ρ w1 hw hcst hfn hk
            clear hw
            simp only [known, List.getD_cons_zero, List.getD_cons_succ, Nat.reduceAdd] at hk
            simp only [List.getD_cons_zero, List.getD_cons_succ, Nat.reduceAdd, flowAt]
            rintro vg rfl
            refine ⟨fun hg => ?_, fun hg => ?_⟩ <;> simp at hg
            go_simp
            exact ⟨Ext.refl _, by first | rfl | trivial⟩
          · rintro ρ w1 hw hcst hfn hk
            clear hw
            simp only [known, List.getD_cons_zero, List.getD_cons_succ, Nat.reduceAdd] at hk
            simp only [List.getD_cons_zero, List.getD_cons_succ, Nat.reduceAdd, flowAt]
            rintro vg rfl
            refine ⟨fun hg => ?_, fun hg => ?_⟩ <;> simp at hg
            first | exact trivial | exact rfl
          · rintro ρ w1 hw hcst hfn hk
            clear hw
            simp only [known, List.getD_cons_zero, List.getD_cons_succ, Nat.reduceAdd] at hk
            simp only [List.getD_cons_zero, List.getD_cons_succ, Nat.reduceAdd, flowAt]
            rintro vg rfl
            refine ⟨fun hg => ?_, fun hg => ?_⟩ <;> simp at hg
            first | exact trivial | exact rfl
          · rintro ρ w1 hw hcst hfn hk
            clear hw
            simp only [known, List.getD_cons_zero, List.getD_cons_succ, Nat.reduceAdd] at hk
            simp only [List.getD_cons_zero, List.getD_cons_succ, Nat.reduceAdd, flowAt]
            rintro vg rfl
            refine ⟨fun hg => ?_, fun hg => ?_⟩ <;> simp at hg
            first | exact trivial | exact rfl
          · rintro ρ w1 hw hcst hfn hk
            clear hw
            simp only [known, List.getD_cons_zero, List.getD_cons_succ, Nat.reduceAdd] at hk
            simp only [List.getD_cons_zero, List.getD_cons_succ, Nat.reduceAdd, flowAt]
            rintro vg rfl
            refine ⟨fun hg => ?_, fun hg => ?_⟩ <;> simp at hg
            first | exact trivial | exact rfl
          · rintro ρ w1 hw hcst hfn hk
            clear hw
            simp only [known, List.getD_cons_zero, List.getD_cons_succ, Nat.reduceAdd] at hk
            simp only [List.getD_cons_zero, List.getD_cons_succ, Nat.reduceAdd, flowAt]
            rintro vg rfl
            refine ⟨fun hg => ?_, fun hg => ?_⟩ <;> simp at hg
            first | exact trivial | exact rfl
          · rintro ρ w1 hw hcst hfn hk
            clear hw
            simp only [known, List.getD_cons_zero, List.getD_cons_succ, Nat.reduceAdd] at hk
            simp only [List.getD_cons_zero, List.getD_cons_succ, Nat.reduceAdd, flowAt]
            rintro vg rfl
            refine ⟨fun hg => ?_, fun hg => ?_⟩ <;> simp at hg
            first | exact trivial | exact rfl
          · rintro ρ w1 hw hcst hfn hk
            clear hw
            simp only [known, List.getD_cons_zero, List.getD_cons_succ, Nat.reduceAdd] at hk
            simp only [List.getD_cons_zero, List.getD_cons_succ, Nat.reduceAdd, flowAt]
            rintro vg rfl
            refine ⟨fun hg => ?_, fun hg => ?_⟩ <;> simp at hg
            first | exact trivial | exact rfl
          · rintro ρ w1 hw hcst hfn hk
            clear hw
            simp only [known, List.getD_cons_zero, List.getD_cons_succ, Nat.reduceAdd] at hk
            simp only [List.getD_cons_zero, List.getD_cons_succ, Nat.reduceAdd, flowAt]
            rintro vg rfl
            refine ⟨fun hg => ?_, fun hg => ?_⟩ <;> simp at hg
            first | exact trivial | exact rfl
          · rintro ρ w1 hw hcst hfn hk
            clear hw
            simp only [known, List.getD_cons_zero, List.getD_cons_succ, Nat.reduceAdd] at hk
            simp only [List.getD_cons_zero, List.getD_cons_succ, Nat.reduceAdd, flowAt]
            rintro vg rfl
            refine ⟨fun hg => ?_, fun hg => ?_⟩ <;> simp at hg
            go_simp
            exact ⟨Ext.refl _, by first | rfl | trivial⟩
          · rintro ρ w1 hw hcst hfn hk
            clear hw
            simp only [known, List.getD_cons_zero, List.getD_cons_succ, Nat.reduceAdd] at hk
            simp only [List.getD_cons_zero, List.getD_cons_succ, Nat.reduceAdd, flowAt]
            go_simp
            exact ⟨Ext.refl _, by first | rfl | trivial⟩
        intro vs w1 hw hf
        simp only [flowFacts, Nat.reduceAdd] at hf
        obtain ⟨e0, e1, e2, e3, e4, e5, e6, e7, e8, e9, e10, e11, e12, e13, e14, e15, e16, e17, e18, e19, e20, e21, e22, e23, e24, e25, e26, e27, -⟩ := hf
        simp only [List.take_succ_cons, List.take_zero, List.drop_succ_cons, List.drop_zero, putAll, Act.put, Nat.reduceAdd, List.setIfInBounds_toArray, List.set_cons_zero, List.set_cons_succ, e0, e1, e2, e3, e4, e5, e6, e7, e8, e9, e10, e11, e12, e13, e14, e15, e16, e17, e18, e19, e20, e21, e22, e23, e24, e25, e26, e27]
        clear e0 e1 e2 e3 e4 e5 e6 e7 e8 e9 e10 e11 e12 e13 e14 e15 e16 e17 e18 e19 e20 e21 e22 e23 e24 e25 e26 e27
        have hx := (Ext.refl _).drew.trans hw
        replace b0 := hx.cell b0
        replace RL := hid (RL.out.ext hx)
        replace R2 := hid (R2.out.ext hx)
        replace hE := hE.trans hx
        clear hx
        clear hw c0
        go_wp2_with fail
        go_roundw
        case rel => exact ⟨k + 1, by omega, by go_num, hid ⟨hE, b0, RL.out, R2.out⟩⟩
        case measure => simp [intOf]; omega
    · have c0 := hcs 0 v0
      have c1 := hcs (V.length - 1) (by omega)
      rw [HP.out, Nat.add_zero] at c0
      rw [HQ.out] at c1
      obtain ⟨qz, hqz⟩ : ∃ z, o + (V.length - 1) = z := ⟨_, rfl⟩
      rw [hqz] at c1
      have e1 : ((V.length : Int) - 1).toNat = V.length - 1 := by omega
      have hv1 : (0 : Int) < (V.length : Int) := by omega
      clear hcs
      go_wp2_with fail
      go_returns
      exact ⟨rfl, hE⟩
set_option maxRecDepth 100000 in
theorem lifted_FnLadders (os : Os) (started : os.Started) (H : Type) (enc : TypeId × Value → H) :
    ReturnsInHanded {} Try.checked os 4 .any (Rows.fnLaddersSpec.pre6 enc Try.prog Try.f4 Rows.fnLaddersRow.domain false) (Rows.fnLaddersSpec.post enc Try.prog Try.f4 false true false false) := by
  refine returnsInHanded_of_change (C := Try.checked) ownRow started (by kernel_rfl) Try.func4
    (ChangeSpec.witness6 (enc := enc) (C := Try.checked) false ⟨#[], #[.slice none 0 0], []⟩ 8 (by kernel_rfl) (by kernel_rfl) (by kernel_rfl) (by kernel_rfl)) ?_
  intro W base args ds gs before hval0 hW hcnd _
  have hval : ∀ (j : Nat) t v, Try.f4.params[j]? = some t → args[j]? = some v → Value.okWide Try.prog W .any base t v := hval0
  have hW' := hW
  obtain ⟨p, q, hA0, hV, rfl, hfz, hnd⟩ := hW
  have hA : DataW.TrodAll enc Try.prog W 0 (fun _ => true) true Try.f4.params.toList args.toList ds p := hA0
  rw [Try.params4] at hA hval
  obtain ⟨v0, vs0, d0, ds0, p0, q0, hargs, rfl, rfl, h0, r0⟩ := trodAll_cons hA
  obtain ⟨rfl, rfl, rfl⟩ := trodAll_nil r0
  obtain rfl : args = #[v0] := by cases args; simp_all
  obtain ⟨rfl, rfl⟩ := trodVars_none hV
  have k0 := h0
  have lt0 : ∀ x ∈ p0, x.block < W.heap.size := by obtain ⟨m, hm⟩ := k0; exact DataW.trod_lt m _ _ _ hm
  obtain ⟨a0_a, a0_c, a0_l, rfl, r_a0, n_a0⟩ := open_code Try.underlying35 Try.underlying5 (by kernel_rfl) (hval 0 35 v0 rfl rfl) h0
  clear hA0 hval0
  refine (walk_FnLadders a0_a a0_c a0_l W r_a0 n_a0).mono fun e W' ⟨he, bel⟩ => ?_
  subst he
  exact ⟨_, rfl, _, _, _, [], _, [], hW', trodAll_mk1 (shut_bool Try.underlying4 _), (trodAll_cons_mk (Below.trod laidRow (by kernel_rfl) (of_decide_eq_true (by kernel_rfl)) k0 bel lt0) trodAll_mk0), rfl, bel.frame _, fun h => by cases h⟩

theorem over_FnLadders : Rows.fnLaddersRow.holds Try.pinned (OpenSpec.ofChange Rows.fnLaddersSpec) :=
  OpenClaim.holds_of_wide 4 Try.f4 rfl rfl rfl rfl rfl rfl rfl ⟨rfl, rfl, rfl, rfl, rfl⟩ rfl rfl rfl rfl rfl (by kernel_rfl) Try.func4 (by kernel_rfl)
    (of_decide_eq_true (by kernel_rfl)) (by unfold Func.isWrapper; first | (rw [if_pos (by decide +kernel)]; kernel_rfl) | (rw [if_neg (by decide +kernel)]; exact ⟨rfl, rfl⟩))
    (fun os started H enc _ => lifted_FnLadders os started H enc)

theorem said_FnLadders : Rows.FnLaddersSaid := over_FnLadders
end Go.Proofs.Ytaigabenlccdaaa
