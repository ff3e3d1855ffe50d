/- Automata compared, by the program and by the reference. Conditions: at most 2^20 elements. -/
import Derived.Test.YtlnccdbmchjhlaaDg4
namespace Go.Proofs.Ytlnccdbmchjhlaa
set_option linter.unusedVariables false
set_option linter.unusedSimpArgs false
open Go Go.RowKit
def eqDg (L M : List NdP) : Bool := decide (L.length = M.length) && (List.range L.length).all fun i => eqNd (ndAt L i).nd (ndAt M i).nd
theorem ndAt_of (L : List NdP) (k : Nat) : (ndAt L k).nd = (ndsOf L).getD k noNd.nd := by
  unfold ndAt ndsOf
  rw [List.getD_eq_getElem?_getD, List.getD_eq_getElem?_getD, List.getElem?_map]
  cases L[k]? <;> rfl
theorem eqDg_congr {L L' M M' : List NdP} (h : ndsOf L = ndsOf L') (k : ndsOf M = ndsOf M') : eqDg L M = eqDg L' M' := by
  have h1 : L.length = L'.length := by rw [← ndsOf_length, h, ndsOf_length]
  have h2 : M.length = M'.length := by rw [← ndsOf_length, k, ndsOf_length]
  unfold eqDg
  rw [h1, h2]
  congr 1
  congr 1
  funext i
  rw [ndAt_of, ndAt_of, ndAt_of, ndAt_of, h, k]
theorem eqDg_len {L M : List NdP} (h : L.length ≠ M.length) : eqDg L M = false := by unfold eqDg; rw [decide_eq_false h]; rfl
theorem eqDg_no {L M : List NdP} (k : Nat) (hk : k < L.length) (h : eqNd (ndAt L k).nd (ndAt M k).nd = false) : eqDg L M = false := by
  unfold eqDg
  rw [Bool.and_eq_false_iff]
  right
  rw [List.all_eq_false]
  exact ⟨k, List.mem_range.2 hk, by simp [h]⟩
theorem eqDg_yes {L M : List NdP} (hl : L.length = M.length) (h : ∀ k, k < L.length → eqNd (ndAt L k).nd (ndAt M k).nd = true) : eqDg L M = true := by
  unfold eqDg
  rw [decide_eq_true hl, Bool.true_and, List.all_eq_true]
  exact fun k hk => h k (List.mem_range.1 hk)
/-- Every node's list is short. -/
def NdSh (L : List NdP) : Prop := ∀ p ∈ L, p.nd.nx.length ≤ 1048576
set_option maxHeartbeats 1600000 in
theorem EqualFuncN_any (a b : Option Addr) (c d : Nat) (L M : List NdP) (w : World) (h : DgRd w a L) (h' : DgRd w b M) (hl : L.length ≤ 1048576) (hl2 : M.length ≤ 1048576) (hs : NdSh L) (hs2 : NdSh M) :
    Calls Try.prog 24 #[.slice a L.length c, .slice b M.length d, .func (.func 25) #[] #[]] w (Ret (.bool (eqDg L M)) w) := by
  have hcf : ∀ (x y : Value) (w : World), (callFunc 25 #[x, y]).run Try.prog w = .ok (.enter 25 #[x, y]) w := fun x y w => by kernel_rfl
  have HR := hid h.1
  have HS := hid h'.1
  have HP : Hid (∀ k, k < L.length → k < M.length → ∀ w', Ext w w' → Calls Try.prog 25 #[ndV (ndAt L k).nd.fin (ndAt L k).nd.lt (ndAt L k).a (ndAt L k).nd.nx.length (ndAt L k).c, ndV (ndAt M k).nd.fin (ndAt M k).nd.lt (ndAt M k).a (ndAt M k).nd.nx.length (ndAt M k).c] w' (Ret (.bool (eqNd (ndAt L k).nd (ndAt M k).nd)) w')) := hid (fun k hk hk2 w' hx => sameNode_any _ _ _ _ _ _ _ _ _ _ w' ((h.2 _ (ndAt_mem L k hk)).ext hx) ((h'.2 _ (ndAt_mem M k hk2)).ext hx) (hs _ (ndAt_mem L k hk)) (hs2 _ (ndAt_mem M k hk2)))
  have HLN := hid (@eqDg_len L M)
  have HNO := hid (fun k h1 h2 => @eqDg_no L M k h1 h2)
  have HYE := hid (@eqDg_yes L M)
  clear h h' hs hs2
  by_cases hne : L.length = M.length
  · have hb : ((L.length : Int) != (M.length : Int)) = false := by simp; omega
    have HLE := hid hne
    clear hne
    go_enter Try.func24, Try.ntmps24
    go_wp2_with fail
    go_loopw [17] (fun i wr => ∃ k : Nat, k ≤ L.length ∧ i = .int .i64 (k : Int) ∧ Hid (∀ j, j < k → eqNd (ndAt L j).nd (ndAt M j).nd = true) ∧ Ext w wr) (fun i _ => L.length - (intOf i).toNat)
    case atStart => exact ⟨0, by omega, rfl, hid (fun j hj => by omega), Ext.refl _⟩
    case round =>
      obtain ⟨k, hk, rfl, HA, hx⟩ := hrel
      by_cases hlt : k < L.length
      · have hlt2 : k < M.length := by have := HLE.out; omega
        obtain ⟨b1, o1, rfl, hc⟩ := (HR.out.ext hx).nds (by omega)
        obtain ⟨b2, o2, rfl, hd⟩ := (HS.out.ext hx).nds (by omega)
        obtain ⟨c0, c1, c2⟩ := hc k hlt
        obtain ⟨d0, d1, d2⟩ := hd k hlt2
        have HPk := hid (fun w' hx => HP.out k hlt hlt2 w' hx)
        have HNk := hid (HNO.out k hlt)
        have HAk : Hid (∀ B, eqNd (ndAt L k).nd (ndAt M k).nd = B → B = true → ∀ j, j < k + 1 → eqNd (ndAt L j).nd (ndAt M j).nd = true) := hid (fun B e1 e2 j h => by
          by_cases e : j = k
          · subst e; rw [e1, e2]
          · exact HA.out j (by omega))
        clear hc hd
        obtain ⟨p, hp⟩ : ∃ p, ndAt L k = p := ⟨_, rfl⟩
        obtain ⟨q, hq⟩ : ∃ q, ndAt M k = q := ⟨_, rfl⟩
        rw [hp] at c0 c1 c2 HPk HNk HAk
        rw [hq] at d0 d1 d2 HPk HNk HAk
        obtain ⟨⟨f, s, nx⟩, pa, pc⟩ := p
        obtain ⟨⟨g, t, ny⟩, qa, qc⟩ := q
        simp only at c0 c1 c2 d0 d1 d2 HPk
        obtain ⟨B, hB⟩ : ∃ B, eqNd ⟨f, s, nx⟩ ⟨g, t, ny⟩ = B := ⟨_, rfl⟩
        rw [hB] at HPk HNk
        have HAK := hid (HAk.out B hB)
        obtain ⟨p1, hp1⟩ : ∃ p1, o1 + k * 3 = p1 := ⟨_, rfl⟩
        obtain ⟨q1, hq1⟩ : ∃ q1, o2 + k * 3 = q1 := ⟨_, rfl⟩
        rw [hp1] at c0 c1 c2
        rw [hq1] at d0 d1 d2
        have e0 := ((Ext.refl wr).alloc (.cells #[.bool f, .string s, .slice pa nx.length pc] 51)).cell d0
        have e1 := ((Ext.refl wr).alloc (.cells #[.bool f, .string s, .slice pa nx.length pc] 51)).cell d1
        have e2 := ((Ext.refl wr).alloc (.cells #[.bool f, .string s, .slice pa nx.length pc] 51)).cell d2
        clear hp hq hB HAk
        go_wp2_with fail
        refine (HPk.out _ ((hx.alloc _).alloc _)).mono ?_
        rintro e w2 ⟨rfl, hx2⟩
        replace hx := ((hx.alloc _).alloc _).trans hx2
        clear hx2
        cases B
        · have HN := hid (HNk.out rfl)
          go_wp2_with fail
          go_returns
          exact ⟨by rw [HN.out]; rfl, hx⟩
        · have HK2 := hid (HAK.out rfl)
          go_wp2_with fail
          go_roundw
          case rel => exact ⟨k + 1, by omega, by go_num, HK2, hx⟩
          case measure => simp [intOf]; omega
      · have HT := hid (HYE.out HLE.out (fun j h1 => HA.out j (by omega)))
        go_wp2_with fail
        go_returns
        exact ⟨by rw [HT.out]; rfl, hx⟩
  · have hb : ((L.length : Int) != (M.length : Int)) = true := by simp; omega
    have HN := hid (HLN.out hne)
    clear hne
    go_enter Try.func24, Try.ntmps24
    go_wp2_with fail
    go_returns
    exact ⟨by rw [HN.out]; rfl, Ext.refl _⟩
set_option maxHeartbeats 400000 in
theorem SameDawg_any (a b : Option Addr) (c d : Nat) (L M : List NdP) (w : World) (h : DgRd w a L) (h' : DgRd w b M) (hl : L.length ≤ 1048576) (hl2 : M.length ≤ 1048576) (hs : NdSh L) (hs2 : NdSh M) :
    Calls Try.prog 13 #[dawgV a L.length c, dawgV b M.length d] w (Ret (.bool (eqDg L M)) w) := by
  have H := hid (fun w' (k : Ext w w') => EqualFuncN_any a b c d L M w' (h.ext k) (h'.ext k) hl hl2 hs hs2)
  clear h h' hs hs2
  go_enter Try.func13, Try.ntmps13
  go_wp2_with fail
  refine (H.out _ (((Ext.refl w).alloc _).alloc _)).mono ?_
  rintro e w2 ⟨rfl, hx⟩
  go_wp2_with fail
  go_returns
  exact ⟨rfl, (((Ext.refl w).alloc _).alloc _).trans hx⟩
set_option maxHeartbeats 1600000 in
theorem l06Same_any (p p1 q q1 : Nat) (a b : Option Addr) (c d : Nat) (L M : List NdP) (w : World) (x0 : w.cell? ⟨p, p1, none⟩ = some (.slice a L.length c)) (y0 : w.cell? ⟨q, q1, none⟩ = some (.slice b M.length d)) (h : DgRd w a L) (h' : DgRd w b M) (hl : L.length ≤ 1048576) (hl2 : M.length ≤ 1048576) (hs : NdSh L) (hs2 : NdSh M) :
    Calls Try.prog 22 #[.pointer (some ⟨p, p1, none⟩), .pointer (some ⟨q, q1, none⟩)] w (Ret (.bool (eqDg L M)) w) := by
  have HR := hid h.1
  have HS := hid h'.1
  have HP : Hid (∀ k, k < L.length → k < M.length → ∀ w' b1 o1 b2 o2, NdAt w' b1 o1 (ndAt L k).nd.fin (ndAt L k).nd.lt (ndAt L k).a (ndAt L k).nd.nx.length (ndAt L k).c → NdAt w' b2 o2 (ndAt M k).nd.fin (ndAt M k).nd.lt (ndAt M k).a (ndAt M k).nd.nx.length (ndAt M k).c → Ext w w' → Calls Try.prog 35 #[.pointer (some ⟨b1, o1, none⟩), .pointer (some ⟨b2, o2, none⟩)] w' (Ret (.bool (eqNd (ndAt L k).nd (ndAt M k).nd)) w')) := hid (fun k hk hk2 w' b1 o1 b2 o2 n1 n2 hx => l06Equal_any _ _ _ _ _ _ _ _ _ _ _ _ _ _ w' n1 n2 ((h.2 _ (ndAt_mem L k hk)).ext hx) ((h'.2 _ (ndAt_mem M k hk2)).ext hx) (hs _ (ndAt_mem L k hk)) (hs2 _ (ndAt_mem M k hk2)))
  have HLN := hid (@eqDg_len L M)
  have HNO := hid (fun k h1 h2 => @eqDg_no L M k h1 h2)
  have HYE := hid (@eqDg_yes L M)
  have HX0 := hid (fun w' (k : Ext w w') => k.cell x0)
  have HY0 := hid (fun w' (k : Ext w w') => k.cell y0)
  clear h h' hs hs2
  by_cases hne : L.length = M.length
  · have hb : ((L.length : Int) != (M.length : Int)) = false := by simp; omega
    have HLE := hid hne
    clear hne
    go_enter Try.func22, Try.ntmps22
    go_wp2_with fail
    go_quiet (fail)
    go_wp2_with fail
    go_loopw [5] (fun i wr => ∃ k : Nat, k ≤ L.length ∧ i = .int .i64 (k : Int) ∧ Hid (∀ j, j < k → eqNd (ndAt L j).nd (ndAt M j).nd = true) ∧ Ext w wr) (fun i _ => L.length - (intOf i).toNat)
    case atStart => exact ⟨0, by omega, rfl, hid (fun j hj => by omega), (Ext.refl _).drewN _⟩
    case round =>
      clear x0 y0
      obtain ⟨k, hk, rfl, HA, hx⟩ := hrel
      have x0 := HX0.out _ hx
      have y0 := HY0.out _ hx
      by_cases hlt : k < L.length
      · have hlt2 : k < M.length := by have := HLE.out; omega
        obtain ⟨b1, o1, rfl, hc⟩ := (HR.out.ext hx).nds (by omega)
        obtain ⟨b2, o2, rfl, hd⟩ := (HS.out.ext hx).nds (by omega)
        have hck := hc k hlt
        have hdk := hd k hlt2
        have HPk := hid (fun w' b1 o1 b2 o2 h1 h2 hx => HP.out k hlt hlt2 w' b1 o1 b2 o2 h1 h2 hx)
        have HNk := hid (HNO.out k hlt)
        have HAk : Hid (∀ B, eqNd (ndAt L k).nd (ndAt M k).nd = B → B = true → ∀ j, j < k + 1 → eqNd (ndAt L j).nd (ndAt M j).nd = true) := hid (fun B e1 e2 j h => by
          by_cases e : j = k
          · subst e; rw [e1, e2]
          · exact HA.out j (by omega))
        clear hc hd
        obtain ⟨p', hp⟩ : ∃ p, ndAt L k = p := ⟨_, rfl⟩
        obtain ⟨q', hq⟩ : ∃ q, ndAt M k = q := ⟨_, rfl⟩
        rw [hp] at hck HPk HNk HAk
        rw [hq] at hdk HPk HNk HAk
        obtain ⟨⟨f, s, nx⟩, pa, pc⟩ := p'
        obtain ⟨⟨g, t, ny⟩, qa, qc⟩ := q'
        simp only at hck hdk HPk
        obtain ⟨B, hB⟩ : ∃ B, eqNd ⟨f, s, nx⟩ ⟨g, t, ny⟩ = B := ⟨_, rfl⟩
        rw [hB] at HPk HNk
        have HAK := hid (HAk.out B hB)
        obtain ⟨u1, hu1⟩ : ∃ u1, o1 + k * 3 = u1 := ⟨_, rfl⟩
        obtain ⟨u2, hu2⟩ : ∃ u2, o2 + k * 3 = u2 := ⟨_, rfl⟩
        rw [hu1] at hck
        rw [hu2] at hdk
        have HC1 : Hid (NdAt wr b1 u1 f s pa nx.length pc) := hid hck
        have HC2 : Hid (NdAt wr b2 u2 g t qa ny.length qc) := hid hdk
        clear hp hq hB HAk hck hdk
        cases B
        · have HN := hid (HNk.out rfl)
          go_wp2_with fail
          refine wp_region_flow_at (C := Ext) 14 [fun v _ => v = .pointer (some ⟨p, p1, none⟩), fun v _ => v = .pointer (some ⟨p, p1, none⟩), fun v _ => v = .pointer (some ⟨p, p1, none⟩), fun v _ => v = .slice (some ⟨b1, o1, none⟩) L.length c, fun v _ => v = .int .i64 k, fun v _ => v = .pointer (some ⟨b1, u1, none⟩), fun v _ => v = .pointer (some ⟨q, q1, none⟩), fun v _ => v = .pointer (some ⟨q, q1, none⟩), fun v _ => v = .pointer (some ⟨q, q1, none⟩), fun v _ => v = .slice (some ⟨b2, o2, none⟩) M.length d, fun v _ => v = .int .i64 k, fun v _ => v = .pointer (some ⟨b2, u2, none⟩), fun v _ => v = .bool false, fun v _ => v = .bool true]
            [[(0, none)], [(26, some 0)], [(27, some 1)], [(28, some 2)], [(5, none)], [(29, some 3), (30, some 4)], [(1, none)], [(32, some 6)], [(33, some 7)], [(34, some 8)], [(5, none)], [(35, some 9), (36, some 10)], [(31, some 5), (37, some 11)], [(38, some 12)]] (by kernel_rfl) (by kernel_rfl) Ext.refl (fun _ _ _ => Ext.trans) ?_ ?_ ?_
          · intro F hF
            simp only [List.mem_cons, List.not_mem_nil, or_false] at hF
            rcases hF with rfl | rfl | rfl | rfl | rfl | rfl | rfl | rfl | rfl | rfl | rfl | rfl | rfl | rfl <;> exact fun _ _ _ h _ => h
          · refine ⟨?_, ?_, ?_, ?_, ?_, ?_, ?_, ?_, ?_, ?_, ?_, ?_, ?_, ?_, trivial⟩
            · rintro ρ w1 hw hcst hfn hk
              clear hw
              simp only [known, List.getD_cons_zero, List.getD_cons_succ, Nat.reduceAdd] at hk
              simp only [List.getD_cons_zero, List.getD_cons_succ, Nat.reduceAdd, flowAt]
              go_simp
              exact ⟨Ext.refl _, by first | rfl | trivial⟩
            · rintro ρ w1 hw hcst hfn hk
              clear hw
              simp only [known, List.getD_cons_zero, List.getD_cons_succ, Nat.reduceAdd] at hk
              simp only [List.getD_cons_zero, List.getD_cons_succ, Nat.reduceAdd, flowAt]
              go_simp
              exact ⟨Ext.refl _, by first | rfl | trivial⟩
            · rintro ρ w1 hw hcst hfn hk
              clear hw
              simp only [known, List.getD_cons_zero, List.getD_cons_succ, Nat.reduceAdd] at hk
              simp only [List.getD_cons_zero, List.getD_cons_succ, Nat.reduceAdd, flowAt]
              go_simp
              exact ⟨Ext.refl _, by first | rfl | trivial⟩
            · rintro ρ w1 hw hcst hfn hk
              have c0 := hw.cell (b := p) (o := p1) (v := .slice (some ⟨b1, o1, none⟩) L.length c) (by first | (simp [*]; done) | (simp [*, go_sem]; done) | go_cell)
              clear hw
              simp only [known, List.getD_cons_zero, List.getD_cons_succ, Nat.reduceAdd] at hk
              simp only [List.getD_cons_zero, List.getD_cons_succ, Nat.reduceAdd, flowAt]
              go_simp
              exact ⟨Ext.refl _, by first | rfl | trivial⟩
            · rintro ρ w1 hw hcst hfn hk
              clear hw
              simp only [known, List.getD_cons_zero, List.getD_cons_succ, Nat.reduceAdd] at hk
              simp only [List.getD_cons_zero, List.getD_cons_succ, Nat.reduceAdd, flowAt]
              go_simp
              exact ⟨Ext.refl _, by first | rfl | trivial⟩
            · rintro ρ w1 hw hcst hfn hk
              simp only [known, List.getD_cons_zero, List.getD_cons_succ, Nat.reduceAdd] at hk
              simp only [List.getD_cons_zero, List.getD_cons_succ, Nat.reduceAdd, flowAt]
              go_simp
              exact ⟨Ext.refl _, by first | rfl | rw [hu1]⟩
            · rintro ρ w1 hw hcst hfn hk
              clear hw
              simp only [known, List.getD_cons_zero, List.getD_cons_succ, Nat.reduceAdd] at hk
              simp only [List.getD_cons_zero, List.getD_cons_succ, Nat.reduceAdd, flowAt]
              go_simp
              exact ⟨Ext.refl _, by first | rfl | trivial⟩
            · rintro ρ w1 hw hcst hfn hk
              clear hw
              simp only [known, List.getD_cons_zero, List.getD_cons_succ, Nat.reduceAdd] at hk
              simp only [List.getD_cons_zero, List.getD_cons_succ, Nat.reduceAdd, flowAt]
              go_simp
              exact ⟨Ext.refl _, by first | rfl | trivial⟩
            · rintro ρ w1 hw hcst hfn hk
              clear hw
              simp only [known, List.getD_cons_zero, List.getD_cons_succ, Nat.reduceAdd] at hk
              simp only [List.getD_cons_zero, List.getD_cons_succ, Nat.reduceAdd, flowAt]
              go_simp
              exact ⟨Ext.refl _, by first | rfl | trivial⟩
            · rintro ρ w1 hw hcst hfn hk
              have c0 := hw.cell (b := q) (o := q1) (v := .slice (some ⟨b2, o2, none⟩) M.length d) (by first | (simp [*]; done) | (simp [*, go_sem]; done) | go_cell)
              clear hw
              simp only [known, List.getD_cons_zero, List.getD_cons_succ, Nat.reduceAdd] at hk
              simp only [List.getD_cons_zero, List.getD_cons_succ, Nat.reduceAdd, flowAt]
              go_simp
              exact ⟨Ext.refl _, by first | rfl | trivial⟩
            · rintro ρ w1 hw hcst hfn hk
              clear hw
              simp only [known, List.getD_cons_zero, List.getD_cons_succ, Nat.reduceAdd] at hk
              simp only [List.getD_cons_zero, List.getD_cons_succ, Nat.reduceAdd, flowAt]
              go_simp
              exact ⟨Ext.refl _, by first | rfl | trivial⟩
            · rintro ρ w1 hw hcst hfn hk
              simp only [known, List.getD_cons_zero, List.getD_cons_succ, Nat.reduceAdd] at hk
              simp only [List.getD_cons_zero, List.getD_cons_succ, Nat.reduceAdd, flowAt]
              go_simp
              exact ⟨Ext.refl _, by first | rfl | rw [hu2]⟩
            · rintro ρ w1 hw hcst hfn hk
              simp only [known, List.getD_cons_zero, List.getD_cons_succ, Nat.reduceAdd] at hk
              simp only [List.getD_cons_zero, List.getD_cons_succ, Nat.reduceAdd, flowAt]
              go_simp
              exact flow_ret (HPk.out _ _ _ _ _ (HC1.out.ext ((Ext.refl _).drew.trans hw)) (HC2.out.ext ((Ext.refl _).drew.trans hw)) (hx.trans ((Ext.refl _).drew.trans hw)))
            · rintro ρ w1 hw hcst hfn hk
              clear hw
              simp only [known, List.getD_cons_zero, List.getD_cons_succ, Nat.reduceAdd] at hk
              simp only [List.getD_cons_zero, List.getD_cons_succ, Nat.reduceAdd, flowAt]
              go_simp
              exact ⟨Ext.refl _, by first | rfl | trivial⟩
          intro vs w1 hw hf
          simp only [flowFacts, Nat.reduceAdd] at hf
          obtain ⟨e0, e1, e2, e3, e4, e5, e6, e7, e8, e9, e10, e11, e12, e13, -⟩ := hf
          simp only [List.take_succ_cons, List.take_zero, List.drop_succ_cons, List.drop_zero, putAll, Act.put, Nat.reduceAdd, List.setIfInBounds_toArray, List.set_cons_zero, List.set_cons_succ, e0, e1, e2, e3, e4, e5, e6, e7, e8, e9, e10, e11, e12, e13]
          clear e0 e1 e2 e3 e4 e5 e6 e7 e8 e9 e10 e11 e12 e13
          have hx2 := hx.trans ((Ext.refl _).drew.trans hw)
          clear hw
          go_wp2_with fail
          go_returns
          exact ⟨by rw [HN.out]; rfl, hx2⟩
        · have HK2 := hid (HAK.out rfl)
          go_wp2_with fail
          refine wp_region_flow_at (C := Ext) 14 [fun v _ => v = .pointer (some ⟨p, p1, none⟩), fun v _ => v = .pointer (some ⟨p, p1, none⟩), fun v _ => v = .pointer (some ⟨p, p1, none⟩), fun v _ => v = .slice (some ⟨b1, o1, none⟩) L.length c, fun v _ => v = .int .i64 k, fun v _ => v = .pointer (some ⟨b1, u1, none⟩), fun v _ => v = .pointer (some ⟨q, q1, none⟩), fun v _ => v = .pointer (some ⟨q, q1, none⟩), fun v _ => v = .pointer (some ⟨q, q1, none⟩), fun v _ => v = .slice (some ⟨b2, o2, none⟩) M.length d, fun v _ => v = .int .i64 k, fun v _ => v = .pointer (some ⟨b2, u2, none⟩), fun v _ => v = .bool true, fun v _ => v = .bool false]
            [[(0, none)], [(26, some 0)], [(27, some 1)], [(28, some 2)], [(5, none)], [(29, some 3), (30, some 4)], [(1, none)], [(32, some 6)], [(33, some 7)], [(34, some 8)], [(5, none)], [(35, some 9), (36, some 10)], [(31, some 5), (37, some 11)], [(38, some 12)]] (by kernel_rfl) (by kernel_rfl) Ext.refl (fun _ _ _ => Ext.trans) ?_ ?_ ?_
          · intro F hF
            simp only [List.mem_cons, List.not_mem_nil, or_false] at hF
            rcases hF with rfl | rfl | rfl | rfl | rfl | rfl | rfl | rfl | rfl | rfl | rfl | rfl | rfl | rfl <;> exact fun _ _ _ h _ => h
          · refine ⟨?_, ?_, ?_, ?_, ?_, ?_, ?_, ?_, ?_, ?_, ?_, ?_, ?_, ?_, trivial⟩
            · rintro ρ w1 hw hcst hfn hk
              clear hw
              simp only [known, List.getD_cons_zero, List.getD_cons_succ, Nat.reduceAdd] at hk
              simp only [List.getD_cons_zero, List.getD_cons_succ, Nat.reduceAdd, flowAt]
              go_simp
              exact ⟨Ext.refl _, by first | rfl | trivial⟩
            · rintro ρ w1 hw hcst hfn hk
              clear hw
              simp only [known, List.getD_cons_zero, List.getD_cons_succ, Nat.reduceAdd] at hk
              simp only [List.getD_cons_zero, List.getD_cons_succ, Nat.reduceAdd, flowAt]
              go_simp
              exact ⟨Ext.refl _, by first | rfl | trivial⟩
            · rintro ρ w1 hw hcst hfn hk
              clear hw
              simp only [known, List.getD_cons_zero, List.getD_cons_succ, Nat.reduceAdd] at hk
              simp only [List.getD_cons_zero, List.getD_cons_succ, Nat.reduceAdd, flowAt]
              go_simp
              exact ⟨Ext.refl _, by first | rfl | trivial⟩
            · rintro ρ w1 hw hcst hfn hk
              have c0 := hw.cell (b := p) (o := p1) (v := .slice (some ⟨b1, o1, none⟩) L.length c) (by first | (simp [*]; done) | (simp [*, go_sem]; done) | go_cell)
              clear hw
              simp only [known, List.getD_cons_zero, List.getD_cons_succ, Nat.reduceAdd] at hk
              simp only [List.getD_cons_zero, List.getD_cons_succ, Nat.reduceAdd, flowAt]
              go_simp
              exact ⟨Ext.refl _, by first | rfl | trivial⟩
            · rintro ρ w1 hw hcst hfn hk
              clear hw
              simp only [known, List.getD_cons_zero, List.getD_cons_succ, Nat.reduceAdd] at hk
              simp only [List.getD_cons_zero, List.getD_cons_succ, Nat.reduceAdd, flowAt]
              go_simp
              exact ⟨Ext.refl _, by first | rfl | trivial⟩
            · rintro ρ w1 hw hcst hfn hk
              simp only [known, List.getD_cons_zero, List.getD_cons_succ, Nat.reduceAdd] at hk
              simp only [List.getD_cons_zero, List.getD_cons_succ, Nat.reduceAdd, flowAt]
              go_simp
              exact ⟨Ext.refl _, by first | rfl | rw [hu1]⟩
            · rintro ρ w1 hw hcst hfn hk
              clear hw
              simp only [known, List.getD_cons_zero, List.getD_cons_succ, Nat.reduceAdd] at hk
              simp only [List.getD_cons_zero, List.getD_cons_succ, Nat.reduceAdd, flowAt]
              go_simp
              exact ⟨Ext.refl _, by first | rfl | trivial⟩
            · rintro ρ w1 hw hcst hfn hk
              clear hw
              simp only [known, List.getD_cons_zero, List.getD_cons_succ, Nat.reduceAdd] at hk
              simp only [List.getD_cons_zero, List.getD_cons_succ, Nat.reduceAdd, flowAt]
              go_simp
              exact ⟨Ext.refl _, by first | rfl | trivial⟩
            · rintro ρ w1 hw hcst hfn hk
              clear hw
              simp only [known, List.getD_cons_zero, List.getD_cons_succ, Nat.reduceAdd] at hk
              simp only [List.getD_cons_zero, List.getD_cons_succ, Nat.reduceAdd, flowAt]
              go_simp
              exact ⟨Ext.refl _, by first | rfl | trivial⟩
            · rintro ρ w1 hw hcst hfn hk
              have c0 := hw.cell (b := q) (o := q1) (v := .slice (some ⟨b2, o2, none⟩) M.length d) (by first | (simp [*]; done) | (simp [*, go_sem]; done) | go_cell)
              clear hw
              simp only [known, List.getD_cons_zero, List.getD_cons_succ, Nat.reduceAdd] at hk
              simp only [List.getD_cons_zero, List.getD_cons_succ, Nat.reduceAdd, flowAt]
              go_simp
              exact ⟨Ext.refl _, by first | rfl | trivial⟩
            · rintro ρ w1 hw hcst hfn hk
              clear hw
              simp only [known, List.getD_cons_zero, List.getD_cons_succ, Nat.reduceAdd] at hk
              simp only [List.getD_cons_zero, List.getD_cons_succ, Nat.reduceAdd, flowAt]
              go_simp
              exact ⟨Ext.refl _, by first | rfl | trivial⟩
            · rintro ρ w1 hw hcst hfn hk
              simp only [known, List.getD_cons_zero, List.getD_cons_succ, Nat.reduceAdd] at hk
              simp only [List.getD_cons_zero, List.getD_cons_succ, Nat.reduceAdd, flowAt]
              go_simp
              exact ⟨Ext.refl _, by first | rfl | rw [hu2]⟩
            · rintro ρ w1 hw hcst hfn hk
              simp only [known, List.getD_cons_zero, List.getD_cons_succ, Nat.reduceAdd] at hk
              simp only [List.getD_cons_zero, List.getD_cons_succ, Nat.reduceAdd, flowAt]
              go_simp
              exact flow_ret (HPk.out _ _ _ _ _ (HC1.out.ext ((Ext.refl _).drew.trans hw)) (HC2.out.ext ((Ext.refl _).drew.trans hw)) (hx.trans ((Ext.refl _).drew.trans hw)))
            · rintro ρ w1 hw hcst hfn hk
              clear hw
              simp only [known, List.getD_cons_zero, List.getD_cons_succ, Nat.reduceAdd] at hk
              simp only [List.getD_cons_zero, List.getD_cons_succ, Nat.reduceAdd, flowAt]
              go_simp
              exact ⟨Ext.refl _, by first | rfl | trivial⟩
          intro vs w1 hw hf
          simp only [flowFacts, Nat.reduceAdd] at hf
          obtain ⟨e0, e1, e2, e3, e4, e5, e6, e7, e8, e9, e10, e11, e12, e13, -⟩ := hf
          simp only [List.take_succ_cons, List.take_zero, List.drop_succ_cons, List.drop_zero, putAll, Act.put, Nat.reduceAdd, List.setIfInBounds_toArray, List.set_cons_zero, List.set_cons_succ, e0, e1, e2, e3, e4, e5, e6, e7, e8, e9, e10, e11, e12, e13]
          clear e0 e1 e2 e3 e4 e5 e6 e7 e8 e9 e10 e11 e12 e13
          have hx2 := hx.trans ((Ext.refl _).drew.trans hw)
          clear hw
          go_wp2_with fail
          go_roundw
          case rel => exact ⟨k + 1, by omega, by go_num, HK2, hx2⟩
          case measure => simp [intOf]; omega
      · have HT := hid (HYE.out HLE.out (fun j h1 => HA.out j (by omega)))
        go_wp2_with fail
        go_returns
        exact ⟨by rw [HT.out]; rfl, hx⟩
  · have hb : ((L.length : Int) != (M.length : Int)) = true := by simp; omega
    have HN := hid (HLN.out hne)
    clear hne
    go_enter Try.func22, Try.ntmps22
    go_wp2_with fail
    go_quiet (fail)
    go_wp2_with fail
    go_returns
    exact ⟨by rw [HN.out]; rfl, (Ext.refl _).drewN _⟩
set_option maxHeartbeats 400000 in
theorem sSameDawg_any (a b : Option Addr) (c d : Nat) (L M : List NdP) (w : World) (h : DgRd w a L) (h' : DgRd w b M) (hl : L.length ≤ 1048576) (hl2 : M.length ≤ 1048576) (hs : NdSh L) (hs2 : NdSh M) :
    Calls Try.prog 11 #[dawgV a L.length c, dawgV b M.length d] w (Ret (.bool (eqDg L M)) w) := by
  have H := hid (l06Same_any w.heap.size 0 (w.heap.size + 1) 0 a b c d L M ((w.alloc (.cells #[.slice a L.length c] 35)).alloc (.cells #[.slice b M.length d] 35)) (by go_cell) (by go_cell) (h.ext (((Ext.refl w).alloc _).alloc _)) (h'.ext (((Ext.refl w).alloc _).alloc _)) hl hl2 hs hs2)
  clear h h' hs hs2
  go_enter Try.func11, Try.ntmps11
  go_wp2_with fail
  refine H.out.mono ?_
  rintro e w2 ⟨rfl, hx⟩
  go_wp2_with fail
  go_returns
  exact ⟨rfl, (((Ext.refl w).alloc _).alloc _).trans hx⟩
end Go.Proofs.Ytlnccdbmchjhlaa
