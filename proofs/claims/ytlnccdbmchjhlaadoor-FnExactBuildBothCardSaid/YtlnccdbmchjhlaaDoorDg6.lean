/- Automata copied, and compared with their copies, by the laws' own functions. Conditions: at most 2^20 elements. -/
import Derived.Test.YtlnccdbmchjhlaaDoorMg10
namespace Go.Proofs.YtlnccdbmchjhlaaDoor
set_option linter.unusedVariables false
set_option linter.unusedSimpArgs false
open Go Go.RowKit
/-- An automaton comes back, whose memory is the call's own. -/
def RetDg (l : List Nd) (w : World) (e : Ending) (w' : World) : Prop := ∃ a c L, ndsOf L = l ∧ e = .returned (dawgV a L.length c) ∧ OwnR w' w.heap.size a (ndsV L) ∧ NdOwn w' w.heap.size L ∧ Ext w w'
theorem OwnR.dg {w : World} {B : Nat} {a : Option Addr} {L : List NdP} (h : OwnR w B a (ndsV L)) (k : NdOwn w B L) : DgRd w a L := ⟨h.rd, k.rd⟩
set_option maxHeartbeats 1000000 in
theorem eqNode_self (f : Bool) (s : ByteArray) (a b : Option Addr) (c d : Nat) (xs : List Int) (w : World) (h : Rd w a (intsV xs)) (h' : Rd w b (intsV xs)) (hl : xs.length ≤ 1048576) :
    Calls Tryd.prog 39 #[ndV f s a xs.length c, ndV f s b xs.length d] w (Ret (.bool true) w) := by
  have HE : Hid (∀ w', Ext w w' → Calls Tryd.prog 54 #[.slice a xs.length c, .slice b xs.length d] w' fun e w'' => e = .returned (.bool true) ∧ Dr w' w'') := hid (fun w' k => eqInt64S_self a b c d xs w' (h.ext k) (h'.ext k) hl)
  clear h h'
  go_enter Tryd.func39, Tryd.ntmps39
  go_wp2_with fail
  refine (HE.out _ (((Ext.refl w).alloc _).alloc _)).mono ?_
  rintro e w1 ⟨rfl, hx⟩
  have hx2 := (((Ext.refl w).alloc (.cells #[.bool f, .string s, .slice a xs.length c] 65)).alloc (.cells #[.bool f, .string s, .slice b xs.length d] 65)).trans hx.ext
  clear hx
  go_wp2_with fail
  go_returns
  exact ⟨rfl, hx2⟩
set_option maxHeartbeats 1600000 in
theorem eqNodeS_same (a b : Option Addr) (c d : Nat) (L M : List NdP) (w : World) (h : DgRd w a L) (h' : DgRd w b M) (hLM : ndsOf L = ndsOf M) (hl : L.length ≤ 1048576) (hs : NdSh L) :
    Calls Tryd.prog 24 #[.slice a L.length c, .slice b M.length d] w (Ret (.bool true) w) := by
  have hlen : M.length = L.length := by rw [← ndsOf_length, ← hLM, ndsOf_length]
  have HR := hid h.1
  have HS := hid h'.1
  have HP : Hid (∀ k, k < L.length → k < M.length → (ndAt M k).nd = (ndAt L k).nd) := hid (fun k hk hk2 => by rw [ndAt_of, ndAt_of, hLM])
  have HQ : Hid (∀ k, k < L.length → k < M.length → ∀ w' p xs, ndAt M k = p → p.nd.nx = xs → (ndAt L k).nd.nx = xs → Ext w w' → Calls Tryd.prog 39 #[ndV (ndAt L k).nd.fin (ndAt L k).nd.lt (ndAt L k).a xs.length (ndAt L k).c, ndV (ndAt L k).nd.fin (ndAt L k).nd.lt p.a xs.length p.c] w' (Ret (.bool true) w')) := hid (fun k hk hk2 w' p xs e1 e2 e3 hx => by
    subst e1
    subst e2
    refine eqNode_self _ _ _ _ _ _ _ w' ?_ ((h'.2 _ (ndAt_mem M k hk2)).ext hx) (by rw [← e3]; exact hs _ (ndAt_mem L k hk))
    rw [← e3]
    exact (h.2 _ (ndAt_mem L k hk)).ext hx)
  clear h h' hs hLM
  rw [hlen]
  go_enter Tryd.func24, Tryd.ntmps24
  go_wp2_with fail
  go_loopw [5] (fun i wr => ∃ k : Nat, k ≤ L.length ∧ i = .int .i64 (k : Int) ∧ Ext w wr) (fun i _ => L.length - (intOf i).toNat)
  case atStart => exact ⟨0, by omega, rfl, Ext.refl _⟩
  case round =>
    obtain ⟨k, hk, rfl, hx⟩ := hrel
    by_cases hlt : k < L.length
    · have hlt2 : k < M.length := by omega
      obtain ⟨b1, o1, rfl, hc⟩ := (HR.out.ext hx).nds (by omega)
      obtain ⟨b2, o2, rfl, hd⟩ := (HS.out.ext hx).nds (by omega)
      obtain ⟨c0, c1, c2⟩ := hc k hlt
      obtain ⟨d0, d1, d2⟩ := hd k hlt2
      have HPk := HP.out k hlt hlt2
      have HQk := HQ.out k hlt hlt2
      rw [HPk] at d0 d1 d2
      obtain ⟨q, hq⟩ : ∃ q, ndAt M k = q := ⟨_, rfl⟩
      obtain ⟨p, hp⟩ : ∃ p, ndAt L k = p := ⟨_, rfl⟩
      have HQ2 := hid (fun w' hx => HQk w' q (ndAt L k).nd.nx hq (by rw [← hq, HPk]) rfl hx)
      rw [hq, hp] at d2
      rw [hp] at c0 c1 c2 d0 d1 HQ2
      obtain ⟨⟨f, s, nx⟩, pa, pc⟩ := p
      simp only at c0 c1 c2 d0 d1 d2 HQ2
      obtain ⟨qa, hqa⟩ : ∃ qa, q.a = qa := ⟨_, rfl⟩
      obtain ⟨qc, hqc⟩ : ∃ qc, q.c = qc := ⟨_, rfl⟩
      rw [hqa, hqc] at d2 HQ2
      obtain ⟨u1, hu1⟩ : ∃ u1, o1 + k * 3 = u1 := ⟨_, rfl⟩
      obtain ⟨u2, hu2⟩ : ∃ u2, o2 + k * 3 = u2 := ⟨_, rfl⟩
      rw [hu1] at c0 c1 c2
      rw [hu2] at d0 d1 d2
      clear HPk HQk hq hp hqa hqc hc hd
      go_wp2_with fail
      refine wp_region_flow_at (C := Ext) 10 [fun v _ => v = .slice (some ⟨b1, o1, none⟩) L.length c, fun v _ => v = .int .i64 k, fun v _ => v = .pointer (some ⟨b1, u1, none⟩), fun v _ => v = .agg #[.bool f, .string s, .slice pa nx.length pc], fun v _ => v = .slice (some ⟨b2, o2, none⟩) L.length d, fun v _ => v = .int .i64 k, fun v _ => v = .pointer (some ⟨b2, u2, none⟩), fun v _ => v = .agg #[.bool f, .string s, .slice qa nx.length qc], fun v _ => v = .bool true, fun v _ => v = .bool false]
        [[(0, none)], [(5, none)], [(17, some 0), (18, some 1)], [(19, some 2)], [(1, none)], [(5, none)], [(21, some 4), (22, some 5)], [(23, some 6)], [(20, some 3), (24, some 7)], [(25, some 8)]] (by kernel_rfl) (by kernel_rfl) Ext.refl (fun _ _ _ => Ext.trans) ?_ ?_ ?_
      · intro F hF
        simp only [List.mem_cons, List.not_mem_nil, or_false] at hF
        rcases hF with rfl | rfl | rfl | rfl | rfl | rfl | rfl | rfl | rfl | rfl <;> exact fun _ _ _ h _ => h
      · refine ⟨?_, ?_, ?_, ?_, ?_, ?_, ?_, ?_, ?_, ?_, trivial⟩
        · rintro ρ w1 hw hcst hfn hk
          clear hw
          simp only [known, List.getD_cons_zero, List.getD_cons_succ, Nat.reduceAdd] at hk
          simp only [List.getD_cons_zero, List.getD_cons_succ, Nat.reduceAdd, flowAt]
          go_simp
          exact ⟨Ext.refl _, by first | rfl | trivial⟩
        · rintro ρ w1 hw hcst hfn hk
          clear hw
          simp only [known, List.getD_cons_zero, List.getD_cons_succ, Nat.reduceAdd] at hk
          simp only [List.getD_cons_zero, List.getD_cons_succ, Nat.reduceAdd, flowAt]
          go_simp
          exact ⟨Ext.refl _, by first | rfl | trivial⟩
        · rintro ρ w1 hw hcst hfn hk
          simp only [known, List.getD_cons_zero, List.getD_cons_succ, Nat.reduceAdd] at hk
          simp only [List.getD_cons_zero, List.getD_cons_succ, Nat.reduceAdd, flowAt]
          go_simp
          exact ⟨Ext.refl _, by first | rfl | rw [hu1]⟩
        · rintro ρ w1 hw hcst hfn hk
          have c0 := hw.cell (b := b1) (o := u1) (v := .bool f) (by first | (simp [*]; done) | (simp [*, go_sem]; done) | go_cell)
          have c1 := hw.cell (b := b1) (o := u1 + 1) (v := .string s) (by first | (simp [*]; done) | (simp [*, go_sem]; done) | go_cell)
          have c2 := hw.cell (b := b1) (o := u1 + 2) (v := .slice pa nx.length pc) (by first | (simp [*]; done) | (simp [*, go_sem]; done) | go_cell)
          clear hw
          simp only [known, List.getD_cons_zero, List.getD_cons_succ, Nat.reduceAdd] at hk
          simp only [List.getD_cons_zero, List.getD_cons_succ, Nat.reduceAdd, flowAt]
          go_simp
          exact ⟨Ext.refl _, by first | rfl | trivial⟩
        · rintro ρ w1 hw hcst hfn hk
          clear hw
          simp only [known, List.getD_cons_zero, List.getD_cons_succ, Nat.reduceAdd] at hk
          simp only [List.getD_cons_zero, List.getD_cons_succ, Nat.reduceAdd, flowAt]
          go_simp
          exact ⟨Ext.refl _, by first | rfl | trivial⟩
        · rintro ρ w1 hw hcst hfn hk
          clear hw
          simp only [known, List.getD_cons_zero, List.getD_cons_succ, Nat.reduceAdd] at hk
          simp only [List.getD_cons_zero, List.getD_cons_succ, Nat.reduceAdd, flowAt]
          go_simp
          exact ⟨Ext.refl _, by first | rfl | trivial⟩
        · rintro ρ w1 hw hcst hfn hk
          simp only [known, List.getD_cons_zero, List.getD_cons_succ, Nat.reduceAdd] at hk
          simp only [List.getD_cons_zero, List.getD_cons_succ, Nat.reduceAdd, flowAt]
          go_simp
          exact ⟨Ext.refl _, by first | rfl | rw [hu2]⟩
        · rintro ρ w1 hw hcst hfn hk
          have c0 := hw.cell (b := b2) (o := u2) (v := .bool f) (by first | (simp [*]; done) | (simp [*, go_sem]; done) | go_cell)
          have c1 := hw.cell (b := b2) (o := u2 + 1) (v := .string s) (by first | (simp [*]; done) | (simp [*, go_sem]; done) | go_cell)
          have c2 := hw.cell (b := b2) (o := u2 + 2) (v := .slice qa nx.length qc) (by first | (simp [*]; done) | (simp [*, go_sem]; done) | go_cell)
          clear hw
          simp only [known, List.getD_cons_zero, List.getD_cons_succ, Nat.reduceAdd] at hk
          simp only [List.getD_cons_zero, List.getD_cons_succ, Nat.reduceAdd, flowAt]
          go_simp
          exact ⟨Ext.refl _, by first | rfl | trivial⟩
        · rintro ρ w1 hw hcst hfn hk
          simp only [known, List.getD_cons_zero, List.getD_cons_succ, Nat.reduceAdd] at hk
          simp only [List.getD_cons_zero, List.getD_cons_succ, Nat.reduceAdd, flowAt]
          go_simp
          exact flow_ret (HQ2.out _ (hx.trans ((Ext.refl _).drew.trans hw)))
        · rintro ρ w1 hw hcst hfn hk
          clear hw
          simp only [known, List.getD_cons_zero, List.getD_cons_succ, Nat.reduceAdd] at hk
          simp only [List.getD_cons_zero, List.getD_cons_succ, Nat.reduceAdd, flowAt]
          go_simp
          exact ⟨Ext.refl _, by first | rfl | trivial⟩
      intro vs w1 hw hf
      simp only [flowFacts, Nat.reduceAdd] at hf
      obtain ⟨e0, e1, e2, e3, e4, e5, e6, e7, e8, e9, -⟩ := hf
      simp only [List.take_succ_cons, List.take_zero, List.drop_succ_cons, List.drop_zero, putAll, Act.put, Nat.reduceAdd, List.setIfInBounds_toArray, List.set_cons_zero, List.set_cons_succ, e0, e1, e2, e3, e4, e5, e6, e7, e8, e9]
      clear e0 e1 e2 e3 e4 e5 e6 e7 e8 e9
      have hx2 := hx.trans ((Ext.refl _).drew.trans hw)
      clear hw
      go_wp2_with fail
      go_roundw
      case rel => exact ⟨k + 1, by omega, by go_num, hx2⟩
      case measure => simp [intOf]; omega
    · go_wp2_with fail
      go_returns
      exact ⟨rfl, hx⟩
set_option maxHeartbeats 400000 in
theorem eqDawg_same (a b : Option Addr) (c d : Nat) (L M : List NdP) (w : World) (h : DgRd w a L) (h' : DgRd w b M) (hLM : ndsOf L = ndsOf M) (hl : L.length ≤ 1048576) (hs : NdSh L) :
    Calls Tryd.prog 9 #[dawgV a L.length c, dawgV b M.length d] w (Ret (.bool true) w) := by
  have H := hid (fun w' (k : Ext w w') => eqNodeS_same a b c d L M w' (h.ext k) (h'.ext k) hLM hl hs)
  clear h h' hs
  go_enter Tryd.func9, Tryd.ntmps9
  go_wp2_with fail
  refine (H.out _ (((Ext.refl w).alloc _).alloc _)).mono ?_
  rintro e w2 ⟨rfl, hx⟩
  replace hx := (((Ext.refl w).alloc (.cells #[.slice a L.length c] 28)).alloc (.cells #[.slice b M.length d] 28)).trans hx
  go_wp2_with fail
  go_returns
  exact ⟨rfl, hx⟩
end Go.Proofs.YtlnccdbmchjhlaaDoor
