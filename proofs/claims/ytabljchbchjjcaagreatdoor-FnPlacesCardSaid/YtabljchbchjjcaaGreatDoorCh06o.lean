/- An automaton of good nodes found to be so. Conditions: the renumbered nodes of what was built. -/
import Derived.Test.YtabljchbchjjcaaGreatDoorCh06n
import Derived.Test.YtabljchbchjjcaaGreatDoorCh06a
import Derived.Test.YtabljchbchjjcaaGreatDoorMg11
import Derived.WideMake
import Derived.Maps.OwnOps
namespace Go.Proofs.YtabljchbchjjcaaGreatDoor
set_option linter.unusedVariables false
set_option linter.unusedSimpArgs false
open Go Go.RowKit
theorem wpList_lookup_own_bool {P : Program} (w : World) {ops : Array Oper} {rest : List Oper} {o : Oper} {a : Act} {Q : Exit → Act → World → Prop}
    (hg : o.guard = none) (m x : Operand) (t : TypeId) (hop : o.op = Op.lookup t m x false)
    (k e : TypeId) (K : Maps.Keyed P k) (ht : P.underlying t = some (.map k e)) (he : P.underlying e = some .bool) (hz : (zeroValue e).run P w = .ok (.bool false) w) (b n : Nat) (D : DataW Unit)
    (hm : a.eval m = .map (some b)) (hown : w.ownsMap P k (plainElem P e) b n D) (key : Value) (kl : Lit) (hx : a.eval x = key) (hkey : keyOf P k key = some kl)
    (s : Bool) (hat : D.atKey kl (.lit (.bool false)) = .lit (.bool s))
    (hK : wpList P ops Q rest (a.put o.dst (.bool s)) w) :
    wpList P ops Q (o :: rest) a w := by
  refine wpList_plain hg fun K' hK' => ?_
  obtain ⟨v, ps, hrun, hv⟩ := hown.lookup K ht hz (plainElem_bool he false) hkey
  have hv2 : v = .bool s := by
    unfold plainElem at hv
    rw [he] at hv
    cases v <;> simp at hv
    rename_i c
    have e1 := hat.symm.trans hv.1.symm
    injection e1 with e1
    injection e1 with e1
    rw [e1]
  subst hv2
  unfold Oper.wp
  simp [execOp, hop, hm, hx, hrun, Result.andThen]
  exact hK' _ _ hK
/-- What the register tells of nodes that it does not hold. -/
def RMap (D : DataW Unit) (L : List Nd) : Prop := Maps.IsMap D ∧ ∀ n : Nd, KeyOk n → n ∉ L → D.atKey (.string (keyV n).data.toList) (.lit (.bool false)) = .lit (.bool false)
theorem RMap.nil : RMap (.map []) [] := ⟨⟨[], rfl⟩, fun n _ _ => rfl⟩
theorem RMap.put {D : DataW Unit} {L : List Nd} (h : RMap D L) {m : Nd} (hm : KeyOk m) : RMap (D.put (.string (keyV m).data.toList) (.lit (.bool true))) (L ++ [m]) := by
  refine ⟨h.1.put _ _, fun n hn hni => ?_⟩
  have hne : n ≠ m := fun e => hni (by simp [e])
  have hk : (Lit.string (keyV n).data.toList) ≠ .string (keyV m).data.toList := fun he => by
    injection he with he
    exact hne (keyV_inj hn hm (ByteArray.ext (Array.toList_inj.1 he)))
  rw [Maps.atKey_put_other hk]
  exact h.2 n hn (fun q => hni (List.mem_append.2 (.inl q)))
/-- A byte of a form. -/
def fB (u : UInt8) : Prop := 97 ≤ u.toNat ∧ u.toNat ≤ 122 ∨ u.toNat = 62
/-- Nodes of the right form. -/
def NdGood (M : List Nd) : Prop := ∀ n ∈ M, n.lt.size = n.nx.length ∧ n.lt.data.toList.Pairwise (· < ·) ∧ (∀ u ∈ n.lt.data.toList, fB u) ∧ ∀ j ∈ n.nx, 0 ≤ j ∧ j < (M.length : Int)
theorem formByte_ok (u : UInt8) (h : fB u) (w : World) : Calls Tryz.prog 71 #[.int .u8 (u.toNat : Int)] w (Ret (.bool true) w) := by
  unfold fB at h
  by_cases hs : 97 ≤ u.toNat ∧ u.toNat ≤ 122
  · have h1 : (97 : Int) ≤ (u.toNat : Int) := by omega
    have h2 : (u.toNat : Int) ≤ 122 := by omega
    have HS : Hid (∀ w', Calls Tryz.prog 63 #[.int .u8 (u.toNat : Int)] w' (Ret (.bool true) w')) := hid (fun w' => by
      go_enter Tryz.func63, Tryz.ntmps63
      go_wp2_with fail
      go_returns
      exact ⟨rfl, Ext.refl _⟩)
    clear h1 h2 h
    go_enter Tryz.func71, Tryz.ntmps71
    go_wp2_with fail
    refine (HS.out _).mono ?_
    rintro e w1 ⟨rfl, hx⟩
    go_wp2_with fail
    go_returns
    exact ⟨rfl, hx⟩
  · have h6 : u.toNat = 62 := by omega
    have h1 : ¬ (97 : Int) ≤ (u.toNat : Int) := by omega
    have h62 : (u.toNat : Int) = 62 := by omega
    have HS : Hid (∀ w', Calls Tryz.prog 63 #[.int .u8 (62 : Int)] w' (Ret (.bool false) w')) := hid (fun w' => by
      go_enter Tryz.func63, Tryz.ntmps63
      go_wp2_with fail
      go_returns
      exact ⟨rfl, Ext.refl _⟩)
    rw [h62]
    clear h1 h6 h hs h62
    go_enter Tryz.func71, Tryz.ntmps71
    go_wp2_with fail
    refine (HS.out _).mono ?_
    rintro e w1 ⟨rfl, hx⟩
    go_wp2_with fail
    go_returns
    exact ⟨rfl, hx⟩
set_option maxRecDepth 100000 in
set_option maxHeartbeats 4000000 in
theorem nodesOk_good (aD : Option Addr) (cD : Nat) (LD : List NdP) (w : World) (h : DgRd w aD LD) (hg : NdGood (ndsOf LD)) (h1 : 1 ≤ LD.length) (h2 : LD.length ≤ 3000) (hs : NdSh LD) :
    Calls Tryz.prog 52 #[dawgV aD LD.length cD] w (Ret (.bool true) w) := by
  obtain ⟨bN, oN, rfl, -⟩ := h.1.nds (by omega)
  have HR : Hid (∀ w', Ext w w' → DgRd w' (some ⟨bN, oN, none⟩) LD) := hid (fun w' k => ⟨h.1.ext k, fun p hp => (h.2 p hp).ext k⟩)
  have HG := hid hg
  have HS := hid hs
  have n1 : ¬ ((LD.length : Int) < 1) := by omega
  have n2 : ¬ (3000 : Int) < (LD.length : Int) := by omega
  clear h hg hs
  go_enter Tryz.func52, Tryz.ntmps52
  go_wp2_with fail
  go_loopw [20] (fun v20 wr => ∃ k : Nat, v20 = .int .i64 (k : Int) ∧ k ≤ LD.length ∧ Ext w wr ∧ w.heap.size < wr.heap.size ∧ wr.cell? ⟨w.heap.size, 0, none⟩ = some (.slice (some ⟨bN, oN, none⟩) LD.length cD)) (fun v20 _ => LD.length - (intOf v20).toNat)
  case atStart => exact ⟨0, rfl, by omega, (Ext.refl w).alloc _, by simp, by simp⟩
  case round =>
    obtain ⟨k, rfl, hk, hx, hwz, hbox⟩ := hrel
    by_cases hkl : k < LD.length
    · obtain ⟨b9, o9, e9, hcl⟩ := (HR.out wr hx).1.nds (by omega)
      simp only [Option.some.injEq, Addr.mk.injEq, and_true] at e9
      obtain ⟨rfl, rfl⟩ := e9
      obtain ⟨x0, x1, x2⟩ := hcl k hkl
      have hm := ndAt_mem LD k hkl
      obtain ⟨p0, hp0⟩ : ∃ p, ndAt LD k = p := ⟨_, rfl⟩
      rw [hp0] at x0 x1 x2 hm
      obtain ⟨⟨fin, lt, nx⟩, pa, pc⟩ := p0
      obtain ⟨g1, g2, g3, g4⟩ := HG.out ⟨fin, lt, nx⟩ (List.mem_map_of_mem (f := (·.nd)) hm)
      simp only at x0 x1 x2 g1 g2 g3 g4
      obtain ⟨q, hq⟩ : ∃ q, oN + k * 3 = q := ⟨_, rfl⟩
      rw [hq] at x0 x1 x2
      have HNX := hid (fun (w' : World) (k : Ext w w') => (HR.out w' k).2 _ hm)
      have hnl : nx.length ≤ 1048576 := HS.out _ hm
      have G2 := hid g2
      have G3 := hid g3
      have G4 := hid g4
      rw [ndsOf_length] at G4
      have hsz : (lt.size : Int) = (nx.length : Int) := by omega
      have hxn : Ext wr (wr.alloc (.cells #[.bool fin, .string lt, .slice pa nx.length pc] 92)) := (Ext.refl _).alloc _
      have hxw := hx.trans hxn
      have hs0 : wr.heap.size < (wr.alloc (.cells #[.bool fin, .string lt, .slice pa nx.length pc] 92)).heap.size := by simp
      have k0 : (wr.alloc (.cells #[.bool fin, .string lt, .slice pa nx.length pc] 92)).cell? ⟨wr.heap.size, 0, none⟩ = some (.bool fin) := by simp
      have k1 : (wr.alloc (.cells #[.bool fin, .string lt, .slice pa nx.length pc] 92)).cell? ⟨wr.heap.size, 1, none⟩ = some (.string lt) := by simp
      have k2 : (wr.alloc (.cells #[.bool fin, .string lt, .slice pa nx.length pc] 92)).cell? ⟨wr.heap.size, 2, none⟩ = some (.slice pa nx.length pc) := by simp
      have kb := hxn.cell hbox
      obtain ⟨WA, hWA⟩ : ∃ W, wr.alloc (.cells #[.bool fin, .string lt, .slice pa nx.length pc] 92) = W := ⟨_, rfl⟩
      rw [hWA] at hxw k0 k1 k2 kb hs0
      obtain ⟨nb, hnb⟩ : ∃ b, wr.heap.size = b := ⟨_, rfl⟩
      rw [hnb] at k0 k1 k2 hwz hs0
      have HWA := hid hWA
      have HNB := hid hnb
      clear hcl hp0 hm g2 g3 g4 hxn hWA hnb
      go_wp2_with fail
      rw [HWA.out, HNB.out]
      clear HWA HNB hbox x0 x1 x2
      go_loopw [34] (fun v34 wi => ∃ i : Nat, v34 = .int .i64 (i : Int) ∧ i ≤ nx.length ∧ Ext WA wi) (fun v34 _ => nx.length - (intOf v34).toNat)
      case atStart => exact ⟨0, rfl, by omega, Ext.refl _⟩
      case round =>
        obtain ⟨i, rfl, hi, hxi⟩ := hrel
        have j0 := hxi.cell k0
        have j1 := hxi.cell k1
        have j2 := hxi.cell k2
        have jb := hxi.cell kb
        have hxs := hxi.size
        by_cases hil : i < nx.length
        · obtain ⟨bx, ox, rfl, hcx⟩ := (HNX.out _ (hxw.trans hxi)).int (by omega)
          have hcj := hcx i hil
          have hzz := G4.out _ (List.getElem_mem hil)
          obtain ⟨z, hz⟩ : ∃ z, nx[i] = z := ⟨_, rfl⟩
          rw [hz] at hcj hzz
          obtain ⟨p1, hp1⟩ : ∃ p, ox + i = p := ⟨_, rfl⟩
          rw [hp1] at hcj
          have hil2 : i < lt.size := by omega
          have hmu : lt[i] ∈ lt.data.toList := by
            show lt.data[i] ∈ _
            rw [← Array.getElem_toList]
            exact List.getElem_mem _
          have hfb := G3.out _ hmu
          obtain ⟨uu, huu⟩ : ∃ u, lt[i] = u := ⟨_, rfl⟩
          rw [huu] at hfb
          have HFB := hid (fun w' => formByte_ok uu hfb w')
          have HWI : Hid (∀ w', Calls Tryz.prog 72 #[.int .i64 z, .int .i64 0, .int .i64 ((LD.length : Int) - 1)] w' (Ret (.bool true) w')) := hid (fun w' => (within_any _ _ _ w').mono (fun e w2 h => by
            obtain ⟨h1, h2⟩ := h
            refine ⟨?_, by rw [h2]; exact Ext.refl _⟩
            rw [h1]
            unfold inB
            rw [decide_eq_true (by omega)]))
          have u2 : IntKind.i64.wrap ((LD.length : Int) - 1) = (LD.length : Int) - 1 := IntWalk.i64_in _ (by omega)
          clear hcx hmu hfb hz
          by_cases hi0 : i = 0
          · have hi0' : ¬ (0 : Int) < (i : Int) := by omega
            have HI0 := hid hi0
            clear hi0
            go_wp2_with fail
            refine wp_region_flow_at (C := Ext) 31 [fun v _ => v = .pointer (some ⟨nb, 1, none⟩), fun v _ => v = .string lt, fun v _ => v = .int .i64 (i : Int), fun v _ => v = .int .u8 (uu.toNat : Int), fun v _ => v = .bool true, fun v _ => v = .bool false, fun v _ => v = .bool false, fun v _ => v = .int .i64 (i : Int), fun v _ => v = .bool false, fun v _ => v = .bool false, fun v _ => v = undef, fun v _ => v = undef, fun v _ => v = undef, fun v _ => v = undef, fun v _ => v = undef, fun v _ => v = undef, fun v _ => v = undef, fun v _ => v = undef, fun v _ => v = undef, fun v _ => v = undef, fun v _ => v = .bool false, fun v _ => v = .bool false, fun v _ => v = .bool false, fun v _ => v = .int .i64 z, fun v _ => v = .pointer (some ⟨w.heap.size, 0, none⟩), fun v _ => v = .slice (some ⟨bN, oN, none⟩) LD.length cD, fun v _ => v = .int .i64 (LD.length : Int), fun v _ => v = .int .i64 ((LD.length : Int) - 1), fun v _ => v = .bool true, fun v _ => v = .bool false, fun v _ => v = .bool false]
              [[(4, none)], [(39, some 0)], [(5, none)], [(40, some 1), (41, some 2)], [(42, some 3)], [(43, some 4)], [(44, some 5)], [(5, none)], [(46, some 7)], [(47, some 8)], [(4, none)], [(49, some 10)], [(5, none)], [(51, some 12)], [(50, some 11), (52, some 13)], [(4, none)], [(54, some 15)], [(5, none)], [(55, some 16), (56, some 17)], [(53, some 14), (57, some 18)], [(48, some 9), (58, some 19)], [(45, some 6), (59, some 20)], [(60, some 21)], [(6, none)], [(1, none)], [(63, some 24)], [(64, some 25)], [(65, some 26)], [(62, some 23), (66, some 27)], [(67, some 28)], [(61, some 22), (68, some 29)]] (by kernel_rfl) (by kernel_rfl) Ext.refl (fun _ _ _ => Ext.trans) ?_ ?_ ?_
            · intro F hF
              simp only [List.mem_cons, List.not_mem_nil, or_false] at hF
              rcases hF with rfl | rfl | rfl | rfl | rfl | rfl | rfl | rfl | rfl | rfl | rfl | rfl | rfl | rfl | rfl | rfl | rfl | rfl | rfl | rfl | rfl | rfl | rfl | rfl | rfl | rfl | rfl | rfl | rfl | rfl | rfl <;> exact fun _ _ _ h _ => h
            · refine ⟨?_, ?_, ?_, ?_, ?_, ?_, ?_, ?_, ?_, ?_, ?_, ?_, ?_, ?_, ?_, ?_, ?_, ?_, ?_, ?_, ?_, ?_, ?_, ?_, ?_, ?_, ?_, ?_, ?_, ?_, ?_, trivial⟩
              · rintro ρ w1 hw hcst hfn hk
                clear hw
                simp only [known, List.getD_cons_zero, List.getD_cons_succ, Nat.reduceAdd] at hk
                simp only [List.getD_cons_zero, List.getD_cons_succ, Nat.reduceAdd, flowAt]
                go_simp
                exact ⟨Ext.refl _, by first | rfl | trivial⟩
              · rintro ρ w1 hw hcst hfn hk
                have c0 := hw.cell (b := nb) (o := 1) (v := .string lt) (by first | (simp [*]; done) | (simp [*, go_sem]; done) | go_cell)
                clear hw
                simp only [known, List.getD_cons_zero, List.getD_cons_succ, Nat.reduceAdd] at hk
                simp only [List.getD_cons_zero, List.getD_cons_succ, Nat.reduceAdd, flowAt]
                go_simp
                exact ⟨Ext.refl _, by first | rfl | trivial⟩
              · rintro ρ w1 hw hcst hfn hk
                clear hw
                simp only [known, List.getD_cons_zero, List.getD_cons_succ, Nat.reduceAdd] at hk
                simp only [List.getD_cons_zero, List.getD_cons_succ, Nat.reduceAdd, flowAt]
                go_simp
                exact ⟨Ext.refl _, by first | rfl | trivial⟩
              · rintro ρ w1 hw hcst hfn hk
                simp only [known, List.getD_cons_zero, List.getD_cons_succ, Nat.reduceAdd] at hk
                simp only [List.getD_cons_zero, List.getD_cons_succ, Nat.reduceAdd, flowAt]
                go_simp
                exact ⟨Ext.refl _, by first | rfl | rw [huu]⟩
              · rintro ρ w1 hw hcst hfn hk
                simp only [known, List.getD_cons_zero, List.getD_cons_succ, Nat.reduceAdd] at hk
                simp only [List.getD_cons_zero, List.getD_cons_succ, Nat.reduceAdd, flowAt]
                go_simp
                exact flow_ret (HFB.out _)
              · rintro ρ w1 hw hcst hfn hk
                clear hw
                simp only [known, List.getD_cons_zero, List.getD_cons_succ, Nat.reduceAdd] at hk
                simp only [List.getD_cons_zero, List.getD_cons_succ, Nat.reduceAdd, flowAt]
                go_simp
                exact ⟨Ext.refl _, by first | rfl | trivial⟩
              · rintro ρ w1 hw hcst hfn hk
                clear hw
                simp only [known, List.getD_cons_zero, List.getD_cons_succ, Nat.reduceAdd] at hk
                simp only [List.getD_cons_zero, List.getD_cons_succ, Nat.reduceAdd, flowAt]
                go_simp
                exact ⟨Ext.refl _, by first | rfl | trivial⟩
              · rintro ρ w1 hw hcst hfn hk
                clear hw
                simp only [known, List.getD_cons_zero, List.getD_cons_succ, Nat.reduceAdd] at hk
                simp only [List.getD_cons_zero, List.getD_cons_succ, Nat.reduceAdd, flowAt]
                rintro vg rfl
                refine ⟨fun hg => ?_, fun hg => ?_⟩ <;> simp at hg
                go_simp
                exact ⟨Ext.refl _, by first | rfl | trivial⟩
              · rintro ρ w1 hw hcst hfn hk
                simp only [known, List.getD_cons_zero, List.getD_cons_succ, Nat.reduceAdd] at hk
                simp only [List.getD_cons_zero, List.getD_cons_succ, Nat.reduceAdd, flowAt]
                rintro vg rfl
                refine ⟨fun hg => ?_, fun hg => ?_⟩ <;> simp at hg
                go_simp
                exact ⟨Ext.refl _, by first | (simp; done) | (simp; omega)⟩
              · rintro ρ w1 hw hcst hfn hk
                clear hw
                simp only [known, List.getD_cons_zero, List.getD_cons_succ, Nat.reduceAdd] at hk
                simp only [List.getD_cons_zero, List.getD_cons_succ, Nat.reduceAdd, flowAt]
                rintro vg rfl
                refine ⟨fun hg => ?_, fun hg => ?_⟩ <;> simp at hg
                go_simp
                exact ⟨Ext.refl _, by first | rfl | trivial⟩
              · rintro ρ w1 hw hcst hfn hk
                clear hw
                simp only [known, List.getD_cons_zero, List.getD_cons_succ, Nat.reduceAdd] at hk
                simp only [List.getD_cons_zero, List.getD_cons_succ, Nat.reduceAdd, flowAt]
                rintro vg rfl
                refine ⟨fun hg => ?_, fun hg => ?_⟩ <;> simp at hg
                first | exact trivial | exact rfl
              · rintro ρ w1 hw hcst hfn hk
                clear hw
                simp only [known, List.getD_cons_zero, List.getD_cons_succ, Nat.reduceAdd] at hk
                simp only [List.getD_cons_zero, List.getD_cons_succ, Nat.reduceAdd, flowAt]
                rintro vg rfl
                refine ⟨fun hg => ?_, fun hg => ?_⟩ <;> simp at hg
                first | exact trivial | exact rfl
              · rintro ρ w1 hw hcst hfn hk
                clear hw
                simp only [known, List.getD_cons_zero, List.getD_cons_succ, Nat.reduceAdd] at hk
                simp only [List.getD_cons_zero, List.getD_cons_succ, Nat.reduceAdd, flowAt]
                rintro vg rfl
                refine ⟨fun hg => ?_, fun hg => ?_⟩ <;> simp at hg
                first | exact trivial | exact rfl
              · rintro ρ w1 hw hcst hfn hk
                clear hw
                simp only [known, List.getD_cons_zero, List.getD_cons_succ, Nat.reduceAdd] at hk
                simp only [List.getD_cons_zero, List.getD_cons_succ, Nat.reduceAdd, flowAt]
                rintro vg rfl
                refine ⟨fun hg => ?_, fun hg => ?_⟩ <;> simp at hg
                first | exact trivial | exact rfl
              · rintro ρ w1 hw hcst hfn hk
                clear hw
                simp only [known, List.getD_cons_zero, List.getD_cons_succ, Nat.reduceAdd] at hk
                simp only [List.getD_cons_zero, List.getD_cons_succ, Nat.reduceAdd, flowAt]
                rintro vg rfl
                refine ⟨fun hg => ?_, fun hg => ?_⟩ <;> simp at hg
                first | exact trivial | exact rfl
              · rintro ρ w1 hw hcst hfn hk
                clear hw
                simp only [known, List.getD_cons_zero, List.getD_cons_succ, Nat.reduceAdd] at hk
                simp only [List.getD_cons_zero, List.getD_cons_succ, Nat.reduceAdd, flowAt]
                rintro vg rfl
                refine ⟨fun hg => ?_, fun hg => ?_⟩ <;> simp at hg
                first | exact trivial | exact rfl
              · rintro ρ w1 hw hcst hfn hk
                clear hw
                simp only [known, List.getD_cons_zero, List.getD_cons_succ, Nat.reduceAdd] at hk
                simp only [List.getD_cons_zero, List.getD_cons_succ, Nat.reduceAdd, flowAt]
                rintro vg rfl
                refine ⟨fun hg => ?_, fun hg => ?_⟩ <;> simp at hg
                first | exact trivial | exact rfl
              · rintro ρ w1 hw hcst hfn hk
                clear hw
                simp only [known, List.getD_cons_zero, List.getD_cons_succ, Nat.reduceAdd] at hk
                simp only [List.getD_cons_zero, List.getD_cons_succ, Nat.reduceAdd, flowAt]
                rintro vg rfl
                refine ⟨fun hg => ?_, fun hg => ?_⟩ <;> simp at hg
                first | exact trivial | exact rfl
              · rintro ρ w1 hw hcst hfn hk
                clear hw
                simp only [known, List.getD_cons_zero, List.getD_cons_succ, Nat.reduceAdd] at hk
                simp only [List.getD_cons_zero, List.getD_cons_succ, Nat.reduceAdd, flowAt]
                rintro vg rfl
                refine ⟨fun hg => ?_, fun hg => ?_⟩ <;> simp at hg
                first | exact trivial | exact rfl
              · rintro ρ w1 hw hcst hfn hk
                clear hw
                simp only [known, List.getD_cons_zero, List.getD_cons_succ, Nat.reduceAdd] at hk
                simp only [List.getD_cons_zero, List.getD_cons_succ, Nat.reduceAdd, flowAt]
                rintro vg rfl
                refine ⟨fun hg => ?_, fun hg => ?_⟩ <;> simp at hg
                first | exact trivial | exact rfl
              · rintro ρ w1 hw hcst hfn hk
                clear hw
                simp only [known, List.getD_cons_zero, List.getD_cons_succ, Nat.reduceAdd] at hk
                simp only [List.getD_cons_zero, List.getD_cons_succ, Nat.reduceAdd, flowAt]
                rintro vg rfl
                refine ⟨fun hg => ?_, fun hg => ?_⟩ <;> simp at hg
                go_simp
                exact ⟨Ext.refl _, by first | rfl | trivial⟩
              · rintro ρ w1 hw hcst hfn hk
                clear hw
                simp only [known, List.getD_cons_zero, List.getD_cons_succ, Nat.reduceAdd] at hk
                simp only [List.getD_cons_zero, List.getD_cons_succ, Nat.reduceAdd, flowAt]
                go_simp
                exact ⟨Ext.refl _, by first | rfl | trivial⟩
              · rintro ρ w1 hw hcst hfn hk
                clear hw
                simp only [known, List.getD_cons_zero, List.getD_cons_succ, Nat.reduceAdd] at hk
                simp only [List.getD_cons_zero, List.getD_cons_succ, Nat.reduceAdd, flowAt]
                go_simp
                exact ⟨Ext.refl _, by first | rfl | trivial⟩
              · rintro ρ w1 hw hcst hfn hk
                clear hw
                simp only [known, List.getD_cons_zero, List.getD_cons_succ, Nat.reduceAdd] at hk
                simp only [List.getD_cons_zero, List.getD_cons_succ, Nat.reduceAdd, flowAt]
                rintro vg rfl
                refine ⟨fun hg => ?_, fun hg => ?_⟩ <;> simp at hg
                go_simp
                exact ⟨Ext.refl _, by first | rfl | trivial⟩
              · rintro ρ w1 hw hcst hfn hk
                clear hw
                simp only [known, List.getD_cons_zero, List.getD_cons_succ, Nat.reduceAdd] at hk
                simp only [List.getD_cons_zero, List.getD_cons_succ, Nat.reduceAdd, flowAt]
                rintro vg rfl
                refine ⟨fun hg => ?_, fun hg => ?_⟩ <;> simp at hg
                go_simp
                exact ⟨Ext.refl _, by first | rfl | trivial⟩
              · rintro ρ w1 hw hcst hfn hk
                have c0 := hw.cell (b := w.heap.size) (o := 0) (v := .slice (some ⟨bN, oN, none⟩) LD.length cD) (by first | (simp [*]; done) | (simp [*, go_sem]; done) | go_cell)
                clear hw
                simp only [known, List.getD_cons_zero, List.getD_cons_succ, Nat.reduceAdd] at hk
                simp only [List.getD_cons_zero, List.getD_cons_succ, Nat.reduceAdd, flowAt]
                rintro vg rfl
                refine ⟨fun hg => ?_, fun hg => ?_⟩ <;> simp at hg
                go_simp
                exact ⟨Ext.refl _, by first | rfl | trivial⟩
              · rintro ρ w1 hw hcst hfn hk
                clear hw
                simp only [known, List.getD_cons_zero, List.getD_cons_succ, Nat.reduceAdd] at hk
                simp only [List.getD_cons_zero, List.getD_cons_succ, Nat.reduceAdd, flowAt]
                rintro vg rfl
                refine ⟨fun hg => ?_, fun hg => ?_⟩ <;> simp at hg
                go_simp
                exact ⟨Ext.refl _, by first | rfl | trivial⟩
              · rintro ρ w1 hw hcst hfn hk
                simp only [known, List.getD_cons_zero, List.getD_cons_succ, Nat.reduceAdd] at hk
                simp only [List.getD_cons_zero, List.getD_cons_succ, Nat.reduceAdd, flowAt]
                rintro vg rfl
                refine ⟨fun hg => ?_, fun hg => ?_⟩ <;> simp at hg
                go_simp
                exact ⟨Ext.refl _, by first | rfl | rw [u2]⟩
              · rintro ρ w1 hw hcst hfn hk
                simp only [known, List.getD_cons_zero, List.getD_cons_succ, Nat.reduceAdd] at hk
                simp only [List.getD_cons_zero, List.getD_cons_succ, Nat.reduceAdd, flowAt]
                rintro vg rfl
                refine ⟨fun hg => ?_, fun hg => ?_⟩ <;> simp at hg
                go_simp
                exact flow_ret (HWI.out _)
              · rintro ρ w1 hw hcst hfn hk
                clear hw
                simp only [known, List.getD_cons_zero, List.getD_cons_succ, Nat.reduceAdd] at hk
                simp only [List.getD_cons_zero, List.getD_cons_succ, Nat.reduceAdd, flowAt]
                rintro vg rfl
                refine ⟨fun hg => ?_, fun hg => ?_⟩ <;> simp at hg
                go_simp
                exact ⟨Ext.refl _, by first | rfl | trivial⟩
              · rintro ρ w1 hw hcst hfn hk
                clear hw
                simp only [known, List.getD_cons_zero, List.getD_cons_succ, Nat.reduceAdd] at hk
                simp only [List.getD_cons_zero, List.getD_cons_succ, Nat.reduceAdd, flowAt]
                go_simp
                exact ⟨Ext.refl _, by first | rfl | trivial⟩
            intro vs w1 hw hf
            simp only [flowFacts, Nat.reduceAdd] at hf
            obtain ⟨e0, e1, e2, e3, e4, e5, e6, e7, e8, e9, e10, e11, e12, e13, e14, e15, e16, e17, e18, e19, e20, e21, e22, e23, e24, e25, e26, e27, e28, e29, e30, -⟩ := hf
            simp only [List.take_succ_cons, List.take_zero, List.drop_succ_cons, List.drop_zero, putAll, Act.put, Nat.reduceAdd, List.setIfInBounds_toArray, List.set_cons_zero, List.set_cons_succ, e0, e1, e2, e3, e4, e5, e6, e7, e8, e9, e10, e11, e12, e13, e14, e15, e16, e17, e18, e19, e20, e21, e22, e23, e24, e25, e26, e27, e28, e29, e30]
            clear e0 e1 e2 e3 e4 e5 e6 e7 e8 e9 e10 e11 e12 e13 e14 e15 e16 e17 e18 e19 e20 e21 e22 e23 e24 e25 e26 e27 e28 e29 e30
            have hx2 := (Ext.refl _).drew.trans hw
            replace hxi := hxi.trans hx2
            clear hw hx2
            go_wp2_with fail
            go_roundw
            case rel => exact ⟨i + 1, by go_num, by omega, hxi⟩
            case measure => simp [intOf]; omega
          · have hi0' : (0 : Int) < (i : Int) := by omega
            obtain ⟨j, hj⟩ : ∃ j, i = j + 1 := ⟨i - 1, by omega⟩
            have hjl : j < lt.size := by omega
            have u1 : IntKind.i64.wrap ((i : Int) - 1) = (j : Int) := by rw [hj]; exact (IntWalk.i64_in _ (by omega)).trans (by omega)
            obtain ⟨vv, hvv⟩ : ∃ u, lt[j] = u := ⟨_, rfl⟩
            have hlt2 : vv.toNat < uu.toNat := by
              have h1 := List.pairwise_iff_getElem.1 G2.out j i (by rw [toL_len']; exact hjl) (by rw [toL_len']; exact hil2) (by omega)
              rw [UInt8.lt_iff_toNat_lt] at h1
              have e1 : lt.data.toList[j]'(by rw [toL_len']; exact hjl) = vv := by rw [Array.getElem_toList]; exact hvv
              have e2 : lt.data.toList[i]'(by rw [toL_len']; exact hil2) = uu := by rw [Array.getElem_toList]; exact huu
              rw [e1, e2] at h1
              exact h1
            have HJ := hid hj
            clear hj hi0
            go_wp2_with fail
            refine wp_region_flow_at (C := Ext) 31 [fun v _ => v = .pointer (some ⟨nb, 1, none⟩), fun v _ => v = .string lt, fun v _ => v = .int .i64 (i : Int), fun v _ => v = .int .u8 (uu.toNat : Int), fun v _ => v = .bool true, fun v _ => v = .bool false, fun v _ => v = .bool false, fun v _ => v = .int .i64 (i : Int), fun v _ => v = .bool true, fun v _ => v = .bool true, fun v _ => v = .pointer (some ⟨nb, 1, none⟩), fun v _ => v = .string lt, fun v _ => v = .int .i64 (i : Int), fun v _ => v = .int .i64 (j : Int), fun v _ => v = .int .u8 (vv.toNat : Int), fun v _ => v = .pointer (some ⟨nb, 1, none⟩), fun v _ => v = .string lt, fun v _ => v = .int .i64 (i : Int), fun v _ => v = .int .u8 (uu.toNat : Int), fun v _ => v = .bool false, fun v _ => v = .bool false, fun v _ => v = .bool false, fun v _ => v = .bool false, fun v _ => v = .int .i64 z, fun v _ => v = .pointer (some ⟨w.heap.size, 0, none⟩), fun v _ => v = .slice (some ⟨bN, oN, none⟩) LD.length cD, fun v _ => v = .int .i64 (LD.length : Int), fun v _ => v = .int .i64 ((LD.length : Int) - 1), fun v _ => v = .bool true, fun v _ => v = .bool false, fun v _ => v = .bool false]
              [[(4, none)], [(39, some 0)], [(5, none)], [(40, some 1), (41, some 2)], [(42, some 3)], [(43, some 4)], [(44, some 5)], [(5, none)], [(46, some 7)], [(47, some 8)], [(4, none)], [(49, some 10)], [(5, none)], [(51, some 12)], [(50, some 11), (52, some 13)], [(4, none)], [(54, some 15)], [(5, none)], [(55, some 16), (56, some 17)], [(53, some 14), (57, some 18)], [(48, some 9), (58, some 19)], [(45, some 6), (59, some 20)], [(60, some 21)], [(6, none)], [(1, none)], [(63, some 24)], [(64, some 25)], [(65, some 26)], [(62, some 23), (66, some 27)], [(67, some 28)], [(61, some 22), (68, some 29)]] (by kernel_rfl) (by kernel_rfl) Ext.refl (fun _ _ _ => Ext.trans) ?_ ?_ ?_
            · intro F hF
              simp only [List.mem_cons, List.not_mem_nil, or_false] at hF
              rcases hF with rfl | rfl | rfl | rfl | rfl | rfl | rfl | rfl | rfl | rfl | rfl | rfl | rfl | rfl | rfl | rfl | rfl | rfl | rfl | rfl | rfl | rfl | rfl | rfl | rfl | rfl | rfl | rfl | rfl | rfl | rfl <;> exact fun _ _ _ h _ => h
            · refine ⟨?_, ?_, ?_, ?_, ?_, ?_, ?_, ?_, ?_, ?_, ?_, ?_, ?_, ?_, ?_, ?_, ?_, ?_, ?_, ?_, ?_, ?_, ?_, ?_, ?_, ?_, ?_, ?_, ?_, ?_, ?_, trivial⟩
              · rintro ρ w1 hw hcst hfn hk
                clear hw
                simp only [known, List.getD_cons_zero, List.getD_cons_succ, Nat.reduceAdd] at hk
                simp only [List.getD_cons_zero, List.getD_cons_succ, Nat.reduceAdd, flowAt]
                go_simp
                exact ⟨Ext.refl _, by first | rfl | trivial⟩
              · rintro ρ w1 hw hcst hfn hk
                have c0 := hw.cell (b := nb) (o := 1) (v := .string lt) (by first | (simp [*]; done) | (simp [*, go_sem]; done) | go_cell)
                clear hw
                simp only [known, List.getD_cons_zero, List.getD_cons_succ, Nat.reduceAdd] at hk
                simp only [List.getD_cons_zero, List.getD_cons_succ, Nat.reduceAdd, flowAt]
                go_simp
                exact ⟨Ext.refl _, by first | rfl | trivial⟩
              · rintro ρ w1 hw hcst hfn hk
                clear hw
                simp only [known, List.getD_cons_zero, List.getD_cons_succ, Nat.reduceAdd] at hk
                simp only [List.getD_cons_zero, List.getD_cons_succ, Nat.reduceAdd, flowAt]
                go_simp
                exact ⟨Ext.refl _, by first | rfl | trivial⟩
              · rintro ρ w1 hw hcst hfn hk
                simp only [known, List.getD_cons_zero, List.getD_cons_succ, Nat.reduceAdd] at hk
                simp only [List.getD_cons_zero, List.getD_cons_succ, Nat.reduceAdd, flowAt]
                go_simp
                exact ⟨Ext.refl _, by first | rfl | rw [huu]⟩
              · rintro ρ w1 hw hcst hfn hk
                simp only [known, List.getD_cons_zero, List.getD_cons_succ, Nat.reduceAdd] at hk
                simp only [List.getD_cons_zero, List.getD_cons_succ, Nat.reduceAdd, flowAt]
                go_simp
                exact flow_ret (HFB.out _)
              · rintro ρ w1 hw hcst hfn hk
                clear hw
                simp only [known, List.getD_cons_zero, List.getD_cons_succ, Nat.reduceAdd] at hk
                simp only [List.getD_cons_zero, List.getD_cons_succ, Nat.reduceAdd, flowAt]
                go_simp
                exact ⟨Ext.refl _, by first | rfl | trivial⟩
              · rintro ρ w1 hw hcst hfn hk
                clear hw
                simp only [known, List.getD_cons_zero, List.getD_cons_succ, Nat.reduceAdd] at hk
                simp only [List.getD_cons_zero, List.getD_cons_succ, Nat.reduceAdd, flowAt]
                go_simp
                exact ⟨Ext.refl _, by first | rfl | trivial⟩
              · rintro ρ w1 hw hcst hfn hk
                clear hw
                simp only [known, List.getD_cons_zero, List.getD_cons_succ, Nat.reduceAdd] at hk
                simp only [List.getD_cons_zero, List.getD_cons_succ, Nat.reduceAdd, flowAt]
                rintro vg rfl
                refine ⟨fun hg => ?_, fun hg => ?_⟩ <;> simp at hg
                go_simp
                exact ⟨Ext.refl _, by first | rfl | trivial⟩
              · rintro ρ w1 hw hcst hfn hk
                simp only [known, List.getD_cons_zero, List.getD_cons_succ, Nat.reduceAdd] at hk
                simp only [List.getD_cons_zero, List.getD_cons_succ, Nat.reduceAdd, flowAt]
                rintro vg rfl
                refine ⟨fun hg => ?_, fun hg => ?_⟩ <;> simp at hg
                go_simp
                exact ⟨Ext.refl _, by first | (simp; done) | (simp; omega)⟩
              · rintro ρ w1 hw hcst hfn hk
                clear hw
                simp only [known, List.getD_cons_zero, List.getD_cons_succ, Nat.reduceAdd] at hk
                simp only [List.getD_cons_zero, List.getD_cons_succ, Nat.reduceAdd, flowAt]
                rintro vg rfl
                refine ⟨fun hg => ?_, fun hg => ?_⟩ <;> simp at hg
                go_simp
                exact ⟨Ext.refl _, by first | rfl | trivial⟩
              · rintro ρ w1 hw hcst hfn hk
                clear hw
                simp only [known, List.getD_cons_zero, List.getD_cons_succ, Nat.reduceAdd] at hk
                simp only [List.getD_cons_zero, List.getD_cons_succ, Nat.reduceAdd, flowAt]
                rintro vg rfl
                refine ⟨fun hg => ?_, fun hg => ?_⟩ <;> simp at hg
                go_simp
                exact ⟨Ext.refl _, by first | rfl | trivial⟩
              · rintro ρ w1 hw hcst hfn hk
                have c0 := hw.cell (b := nb) (o := 1) (v := .string lt) (by first | (simp [*]; done) | (simp [*, go_sem]; done) | go_cell)
                clear hw
                simp only [known, List.getD_cons_zero, List.getD_cons_succ, Nat.reduceAdd] at hk
                simp only [List.getD_cons_zero, List.getD_cons_succ, Nat.reduceAdd, flowAt]
                rintro vg rfl
                refine ⟨fun hg => ?_, fun hg => ?_⟩ <;> simp at hg
                go_simp
                exact ⟨Ext.refl _, by first | rfl | trivial⟩
              · rintro ρ w1 hw hcst hfn hk
                clear hw
                simp only [known, List.getD_cons_zero, List.getD_cons_succ, Nat.reduceAdd] at hk
                simp only [List.getD_cons_zero, List.getD_cons_succ, Nat.reduceAdd, flowAt]
                rintro vg rfl
                refine ⟨fun hg => ?_, fun hg => ?_⟩ <;> simp at hg
                go_simp
                exact ⟨Ext.refl _, by first | rfl | trivial⟩
              · rintro ρ w1 hw hcst hfn hk
                simp only [known, List.getD_cons_zero, List.getD_cons_succ, Nat.reduceAdd] at hk
                simp only [List.getD_cons_zero, List.getD_cons_succ, Nat.reduceAdd, flowAt]
                rintro vg rfl
                refine ⟨fun hg => ?_, fun hg => ?_⟩ <;> simp at hg
                go_simp
                exact ⟨Ext.refl _, by first | rfl | rw [u1]⟩
              · rintro ρ w1 hw hcst hfn hk
                simp only [known, List.getD_cons_zero, List.getD_cons_succ, Nat.reduceAdd] at hk
                simp only [List.getD_cons_zero, List.getD_cons_succ, Nat.reduceAdd, flowAt]
                rintro vg rfl
                refine ⟨fun hg => ?_, fun hg => ?_⟩ <;> simp at hg
                go_simp
                first | exact ⟨Ext.refl _, by first | rfl | rw [hvv]⟩ | (rw [if_pos (by omega)]; exact ⟨Ext.refl _, by first | rfl | rw [hvv]⟩)
              · rintro ρ w1 hw hcst hfn hk
                clear hw
                simp only [known, List.getD_cons_zero, List.getD_cons_succ, Nat.reduceAdd] at hk
                simp only [List.getD_cons_zero, List.getD_cons_succ, Nat.reduceAdd, flowAt]
                rintro vg rfl
                refine ⟨fun hg => ?_, fun hg => ?_⟩ <;> simp at hg
                go_simp
                exact ⟨Ext.refl _, by first | rfl | trivial⟩
              · rintro ρ w1 hw hcst hfn hk
                have c0 := hw.cell (b := nb) (o := 1) (v := .string lt) (by first | (simp [*]; done) | (simp [*, go_sem]; done) | go_cell)
                clear hw
                simp only [known, List.getD_cons_zero, List.getD_cons_succ, Nat.reduceAdd] at hk
                simp only [List.getD_cons_zero, List.getD_cons_succ, Nat.reduceAdd, flowAt]
                rintro vg rfl
                refine ⟨fun hg => ?_, fun hg => ?_⟩ <;> simp at hg
                go_simp
                exact ⟨Ext.refl _, by first | rfl | trivial⟩
              · rintro ρ w1 hw hcst hfn hk
                clear hw
                simp only [known, List.getD_cons_zero, List.getD_cons_succ, Nat.reduceAdd] at hk
                simp only [List.getD_cons_zero, List.getD_cons_succ, Nat.reduceAdd, flowAt]
                rintro vg rfl
                refine ⟨fun hg => ?_, fun hg => ?_⟩ <;> simp at hg
                go_simp
                exact ⟨Ext.refl _, by first | rfl | trivial⟩
              · rintro ρ w1 hw hcst hfn hk
                simp only [known, List.getD_cons_zero, List.getD_cons_succ, Nat.reduceAdd] at hk
                simp only [List.getD_cons_zero, List.getD_cons_succ, Nat.reduceAdd, flowAt]
                rintro vg rfl
                refine ⟨fun hg => ?_, fun hg => ?_⟩ <;> simp at hg
                go_simp
                exact ⟨Ext.refl _, by first | rfl | rw [huu]⟩
              · rintro ρ w1 hw hcst hfn hk
                simp only [known, List.getD_cons_zero, List.getD_cons_succ, Nat.reduceAdd] at hk
                simp only [List.getD_cons_zero, List.getD_cons_succ, Nat.reduceAdd, flowAt]
                rintro vg rfl
                refine ⟨fun hg => ?_, fun hg => ?_⟩ <;> simp at hg
                go_simp
                exact ⟨Ext.refl _, by first | (simp; done) | (simp; omega)⟩
              · rintro ρ w1 hw hcst hfn hk
                clear hw
                simp only [known, List.getD_cons_zero, List.getD_cons_succ, Nat.reduceAdd] at hk
                simp only [List.getD_cons_zero, List.getD_cons_succ, Nat.reduceAdd, flowAt]
                rintro vg rfl
                refine ⟨fun hg => ?_, fun hg => ?_⟩ <;> simp at hg
                go_simp
                exact ⟨Ext.refl _, by first | rfl | trivial⟩
              · rintro ρ w1 hw hcst hfn hk
                clear hw
                simp only [known, List.getD_cons_zero, List.getD_cons_succ, Nat.reduceAdd] at hk
                simp only [List.getD_cons_zero, List.getD_cons_succ, Nat.reduceAdd, flowAt]
                go_simp
                exact ⟨Ext.refl _, by first | rfl | trivial⟩
              · rintro ρ w1 hw hcst hfn hk
                clear hw
                simp only [known, List.getD_cons_zero, List.getD_cons_succ, Nat.reduceAdd] at hk
                simp only [List.getD_cons_zero, List.getD_cons_succ, Nat.reduceAdd, flowAt]
                go_simp
                exact ⟨Ext.refl _, by first | rfl | trivial⟩
              · rintro ρ w1 hw hcst hfn hk
                clear hw
                simp only [known, List.getD_cons_zero, List.getD_cons_succ, Nat.reduceAdd] at hk
                simp only [List.getD_cons_zero, List.getD_cons_succ, Nat.reduceAdd, flowAt]
                rintro vg rfl
                refine ⟨fun hg => ?_, fun hg => ?_⟩ <;> simp at hg
                go_simp
                exact ⟨Ext.refl _, by first | rfl | trivial⟩
              · rintro ρ w1 hw hcst hfn hk
                clear hw
                simp only [known, List.getD_cons_zero, List.getD_cons_succ, Nat.reduceAdd] at hk
                simp only [List.getD_cons_zero, List.getD_cons_succ, Nat.reduceAdd, flowAt]
                rintro vg rfl
                refine ⟨fun hg => ?_, fun hg => ?_⟩ <;> simp at hg
                go_simp
                exact ⟨Ext.refl _, by first | rfl | trivial⟩
              · rintro ρ w1 hw hcst hfn hk
                have c0 := hw.cell (b := w.heap.size) (o := 0) (v := .slice (some ⟨bN, oN, none⟩) LD.length cD) (by first | (simp [*]; done) | (simp [*, go_sem]; done) | go_cell)
                clear hw
                simp only [known, List.getD_cons_zero, List.getD_cons_succ, Nat.reduceAdd] at hk
                simp only [List.getD_cons_zero, List.getD_cons_succ, Nat.reduceAdd, flowAt]
                rintro vg rfl
                refine ⟨fun hg => ?_, fun hg => ?_⟩ <;> simp at hg
                go_simp
                exact ⟨Ext.refl _, by first | rfl | trivial⟩
              · rintro ρ w1 hw hcst hfn hk
                clear hw
                simp only [known, List.getD_cons_zero, List.getD_cons_succ, Nat.reduceAdd] at hk
                simp only [List.getD_cons_zero, List.getD_cons_succ, Nat.reduceAdd, flowAt]
                rintro vg rfl
                refine ⟨fun hg => ?_, fun hg => ?_⟩ <;> simp at hg
                go_simp
                exact ⟨Ext.refl _, by first | rfl | trivial⟩
              · rintro ρ w1 hw hcst hfn hk
                simp only [known, List.getD_cons_zero, List.getD_cons_succ, Nat.reduceAdd] at hk
                simp only [List.getD_cons_zero, List.getD_cons_succ, Nat.reduceAdd, flowAt]
                rintro vg rfl
                refine ⟨fun hg => ?_, fun hg => ?_⟩ <;> simp at hg
                go_simp
                exact ⟨Ext.refl _, by first | rfl | rw [u2]⟩
              · rintro ρ w1 hw hcst hfn hk
                simp only [known, List.getD_cons_zero, List.getD_cons_succ, Nat.reduceAdd] at hk
                simp only [List.getD_cons_zero, List.getD_cons_succ, Nat.reduceAdd, flowAt]
                rintro vg rfl
                refine ⟨fun hg => ?_, fun hg => ?_⟩ <;> simp at hg
                go_simp
                exact flow_ret (HWI.out _)
              · rintro ρ w1 hw hcst hfn hk
                clear hw
                simp only [known, List.getD_cons_zero, List.getD_cons_succ, Nat.reduceAdd] at hk
                simp only [List.getD_cons_zero, List.getD_cons_succ, Nat.reduceAdd, flowAt]
                rintro vg rfl
                refine ⟨fun hg => ?_, fun hg => ?_⟩ <;> simp at hg
                go_simp
                exact ⟨Ext.refl _, by first | rfl | trivial⟩
              · rintro ρ w1 hw hcst hfn hk
                clear hw
                simp only [known, List.getD_cons_zero, List.getD_cons_succ, Nat.reduceAdd] at hk
                simp only [List.getD_cons_zero, List.getD_cons_succ, Nat.reduceAdd, flowAt]
                go_simp
                exact ⟨Ext.refl _, by first | rfl | trivial⟩
            intro vs w1 hw hf
            simp only [flowFacts, Nat.reduceAdd] at hf
            obtain ⟨e0, e1, e2, e3, e4, e5, e6, e7, e8, e9, e10, e11, e12, e13, e14, e15, e16, e17, e18, e19, e20, e21, e22, e23, e24, e25, e26, e27, e28, e29, e30, -⟩ := hf
            simp only [List.take_succ_cons, List.take_zero, List.drop_succ_cons, List.drop_zero, putAll, Act.put, Nat.reduceAdd, List.setIfInBounds_toArray, List.set_cons_zero, List.set_cons_succ, e0, e1, e2, e3, e4, e5, e6, e7, e8, e9, e10, e11, e12, e13, e14, e15, e16, e17, e18, e19, e20, e21, e22, e23, e24, e25, e26, e27, e28, e29, e30]
            clear e0 e1 e2 e3 e4 e5 e6 e7 e8 e9 e10 e11 e12 e13 e14 e15 e16 e17 e18 e19 e20 e21 e22 e23 e24 e25 e26 e27 e28 e29 e30
            have hx2 := (Ext.refl _).drew.trans hw
            replace hxi := hxi.trans hx2
            clear hw hx2
            go_wp2_with fail
            go_roundw
            case rel => exact ⟨i + 1, by go_num, by omega, hxi⟩
            case measure => simp [intOf]; omega
        · obtain rfl : i = nx.length := by omega
          have hxx := hxw.trans hxi
          go_wp2_with fail
          go_roundw
          case rel => exact ⟨k + 1, by go_num, by omega, hxx, by omega, jb⟩
          case measure => simp [intOf]; omega
    · obtain rfl : k = LD.length := by omega
      go_wp2_with fail
      go_returns
      exact ⟨rfl, hx⟩
end Go.Proofs.YtabljchbchjjcaaGreatDoor
