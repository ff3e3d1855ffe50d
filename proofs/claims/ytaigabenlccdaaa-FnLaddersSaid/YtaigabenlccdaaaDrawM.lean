/- What the laws on patterns and hooks draw. Conditions: a source of which not too much has been asked. -/
import Derived.Test.YtaigabenlccdaaaDrawL
namespace Go.Proofs.Ytaigabenlccdaaa
set_option linter.unusedVariables false
set_option linter.unusedSimpArgs false
open Go Go.RowKit
theorem DrL.ext {N B : Nat} {v : Value} {w w' : World} (h : DrL N B v w) (k : Ext w w') : DrL N B v w' := by
  obtain ⟨a, c, L, h1, h2, h3⟩ := h
  exact ⟨a, c, L, h1, h2.ext k, h3⟩
theorem DrL.exc {N B g : Nat} {v : Value} {w w' : World} (h : DrL N B v w) (k : Exc g w w') (hg : g < B) : DrL N B v w' := by
  obtain ⟨a, c, L, h1, h2, h3⟩ := h
  exact ⟨a, c, L, h1, h2.exc k hg, h3⟩
theorem DrL.mono {N M B C : Nat} {v : Value} {w : World} (h : DrL N B v w) (hN : N ≤ M) (hB : C ≤ B) : DrL M C v w := by
  obtain ⟨a, c, L, h1, h2, h3, h4⟩ := h
  exact ⟨a, c, L, h1, h2.mono hB, Nat.le_trans h3 hN, h4⟩
theorem DrL.offT {N B : Nat} {v : Value} {w : World} (h : DrL N B v w) {b : Nat} {u0 : Value} (hb : Lk w b u0) (o : Nat) (u : Value) : DrL N B v (w.setCell ⟨b, o, none⟩ u) := by
  obtain ⟨a, c, L, h1, h2, h3⟩ := h
  exact ⟨a, c, L, h1, h2.offT hb.own (by decide) o u, h3⟩
theorem Ext.exc {g : Nat} {w0 w w' : World} (h0 : Ext w0 w) (h : Exc g w w') (hg : w0.heap.size ≤ g) : Ext w0 w' := h0.thenBelow (h.below hg h0.size) (Nat.le_refl _)
theorem Exc.toExt {g : Nat} {w0 w' : World} (h : Exc g w0 w') (hg : w0.heap.size ≤ g) : Ext w0 w' := (Ext.refl w0).exc h hg
set_option maxHeartbeats 1000000 in
theorem l12All_any (w : World) : Calls Try.prog 59 #[] w fun e w' => ∃ v, e = .returned v ∧ DrL 100 w.heap.size v w' ∧ Ext w w' := by
  have HL : Hid ((makeL someL).length ≤ 60 ∧ ∀ s ∈ makeL someL, s.size ≤ 100) := hid ⟨by have := foldl_len someL []; rw [some_len] at this; simpa [makeL] using this, fun s hs => by
    rcases foldl_mem hs with h | h
    · simp at h
    · exact some_size h⟩
  go_enter Try.func59, Try.ntmps59
  go_wp2_with fail
  have L0 := hid (Lk.new w (.slice none 0 0))
  refine (l05Some_any _).mono ?_
  rintro e w1 ⟨a, c, rfl, ho, hx⟩
  have HR := hid ho.rd
  have L1 := hid (L0.out.ext hx)
  have HX1 := hid (((Ext.refl w).alloc (.cells #[.slice none 0 0] 28)).trans hx)
  clear ho hx L0
  go_wp2_with fail
  refine (l05Make_any a c someL _ HR.out (by rw [some_len]; omega)).mono ?_
  rintro e w2 ⟨a2, c2, rfl, ho, hx⟩
  obtain ⟨n, hn⟩ : ∃ n, (makeL someL).length = n := ⟨_, rfl⟩
  rw [hn]
  have HN := hid hn
  have HO := hid ho
  have L2 := hid (L1.out.ext hx)
  have HX2 := hid (HX1.out.trans hx)
  have HZ := hid HX1.out.size
  have r2 := L2.out.cell
  have rf2 := L2.out.free 0
  have LE := L2.out.set (.slice a2 n c2)
  have q0 := LE.cell
  have qf := LE.free 0
  clear LE hn ho hx L1 HX1 HR
  go_wp2_with fail
  refine bodyPost_ret (v := .agg #[.slice a2 n c2]) (by simp [results, Try.results59, go_sem, q0, qf]) rfl ⟨_, rfl, ⟨a2, c2, makeL someL, by rw [HN.out], ?_, by have := HL.out.1; omega, HL.out.2⟩, HX2.out.setCell (Nat.le_refl _) _⟩
  exact (HO.out.offT L2.out.own (by decide) 0 _).mono HZ.out
/-- A drawn lexicon and a drawn word. -/
def DrB2 (B : Nat) (v : Value) (w : World) : Prop := ∃ (u : Value) (y : ByteArray), v = .tuple #[u, .string y] ∧ DrL 400 B u w ∧ y.size ≤ 1000
theorem lex1 {N B : Nat} {v : Value} {w : World} (h : DrL N B v w) : ∃ (a : Option Addr) (n c : Nat), v = .agg #[.slice a n c] := by
  obtain ⟨a, c, L, h1, _⟩ := h
  exact ⟨_, _, _, h1⟩
set_option maxHeartbeats 2000000 in
theorem l10Both_any (g k : Nat) (w : World) (h : Src w g k) (hk : k ≤ 1099511590000) :
    Calls Try.prog 37 #[.pointer (some ⟨g, 0, none⟩)] w (Drew g k 310 (fun v w' => DrB2 w.heap.size v w') w) := by
  have HG := hid h.lt
  have HS := hid h
  clear h
  go_enter Try.func37, Try.ntmps37
  go_wp2_with fail
  have L0 := hid (Lk.new w (.slice none 0 0))
  have HX0 := hid ((Ext.refl w).alloc (.cells #[.slice none 0 0] 28))
  refine (l12All_any _).mono ?_
  rintro e u1 ⟨v, rfl, hd, hx⟩
  obtain ⟨a, n, c, rfl⟩ := lex1 hd
  simp only [World.size_alloc] at hd
  obtain ⟨B, hB⟩ : ∃ B, u1.heap.size = B := ⟨_, rfl⟩
  have hz1 := hx.size
  simp only [World.size_alloc] at hz1
  have hwB : w.heap.size < B := by omega
  have hgB : g < B := by have := HG.out; omega
  have hx1 : Ext u1 (u1.alloc (.cells #[.slice a n c] 28)) := (Ext.refl u1).alloc _
  have L1 := hid ((L0.out.ext hx).ext hx1)
  have B1 : Hid (Lk (u1.alloc (.cells #[.slice a n c] 28)) B (.slice a n c)) := hid (by subst hB; exact Lk.new _ _)
  have HX1 := hid ((HX0.out.trans hx).trans hx1)
  have HS1 := hid (HS.out.ext HX1.out)
  have HD1 := hid ((hd.ext hx1).mono (show 100 ≤ 400 by omega) (Nat.le_succ _))
  have HB := hid hB
  clear hd hx hx1 L0 HX0 HS hB
  go_wp2_with fail
  refine (one_any g k 3 _ HS1.out (by omega)).mono ?_
  rintro e w2 ⟨v, rfl, ⟨b, rfl⟩, hE2, hS2⟩
  simp only [HB.out]
  have HS2 := hid hS2
  have L2 := hid (L1.out.exc hE2 (by have := HG.out; omega))
  have B2 := hid (B1.out.exc hE2 (by omega))
  have HX2 := hid ((Exc.of_ext g HX1.out).trans hE2)
  have HD2 := hid (HD1.out.exc hE2 HG.out)
  clear hE2 hS2 HS1 L1 B1 HX1 HD1 HB
  cases b
  case' false =>
    have L3 := L2
    have B3 := B2
    have HX3 := HX2
    have HD3 := HD2
    have HS3 := hid (HS2.out.up (show k + 2 ≤ k + 302 by omega))
    clear L2 B2 HX2 HD2 HS2
    go_wp2_with fail
  case' true =>
    go_wp2_with fail
    refine (l05Bent_any g _ _ HS2.out (by omega)).mono ?_
    rintro e w3 ⟨v, rfl, hd, hE3, hS3⟩
    obtain ⟨a', n', c', rfl⟩ := lex1 hd
    have L3' := hid (L2.out.exc hE3 (by have := HG.out; omega))
    have B3' := hid (B2.out.exc hE3 (by omega))
    have L3 := hid (L3'.out.off (g := B) (by omega) 0 (.slice a' n' c'))
    have B3 := hid (B3'.out.set (.slice a' n' c'))
    have HX3 := hid ((HX2.out.trans hE3).set (b := B) (by omega) 0 (.slice a' n' c'))
    have HD3 := hid ((hd.mono (Nat.le_refl _) HX2.out.size).offT B3'.out 0 (.slice a' n' c'))
    have HS3 := hid ((hS3.exc ((Exc.refl B _).setCell 0 (.slice a' n' c')) hgB).up (show k + 2 + 300 ≤ k + 302 by omega))
    have b3 := B3'.out.cell
    have f3 := B3'.out.free 0
    clear hd hE3 hS3 L2 B2 HX2 HD2 HS2 L3' B3'
    go_wp2_with fail
    clear b3 f3
    obtain ⟨wq, hwq⟩ : ∃ W, w3.setCell ⟨B, 0, none⟩ (.slice a' n' c') = W := ⟨_, rfl⟩
    rw [hwq] at L3 B3 HX3 HD3 HS3 ⊢
    clear hwq
    obtain ⟨a, ha⟩ : ∃ x, x = a' := ⟨_, rfl⟩
    obtain ⟨n, hn⟩ : ∃ x, x = n' := ⟨_, rfl⟩
    obtain ⟨c, hc⟩ : ∃ x, x = c' := ⟨_, rfl⟩
    subst ha hn hc
  all_goals
    have b0 := B3.out.cell
    have bf := B3.out.free 0
    refine wp_region_mut_at 3 2 1 (Exc g) (fun _ x y => Exc g x y ∧ Src y g (k + 306)) [fun v _ => v = .agg #[.slice a n c], fun v _ => v = .pointer (some ⟨g, 0, none⟩), fun v _ => ∃ y : ByteArray, y.size ≤ 100 ∧ v = .string y]
      [[(4, none)], [(0, none)], [(11, some 1)]] (by kernel_rfl) (by kernel_rfl) (by kernel_rfl) (fun _ h => Exc.of_ext g h) (fun _ _ _ _ h1 h2 h3 => ((Exc.of_ext g h1).trans h2.1).ext h3) ?_ ?_ ?_ ?_
    · intro F hF
      simp only [List.mem_cons, List.not_mem_nil, or_false] at hF
      rcases hF with rfl | rfl | rfl <;> exact fun _ _ _ h _ => h
    · intro F hF
      simp only [List.mem_cons, List.not_mem_nil, or_false] at hF
      rcases hF with rfl | rfl | rfl <;> exact fun _ _ _ _ _ h _ => h
    · refine ⟨?_, ?_, ?_, trivial⟩
      · rintro ρ w1 hw hcst hfn hk
        have c0 := hw.cell (b := B) (o := 0) (v := .slice a n c) (by first | (simp [*]; done) | (simp [*, go_sem]; done) | go_cell) (by omega)
        clear hw
        simp only [known, List.getD_cons_zero, List.getD_cons_succ, Nat.reduceAdd] at hk
        simp only [List.getD_cons_zero, List.getD_cons_succ, Nat.reduceAdd, flowAt]
        go_simp
        exact ⟨Ext.refl _, by first | rfl | trivial⟩
      · rintro ρ w1 hw hcst hfn hk
        clear hw
        simp only [known, List.getD_cons_zero, List.getD_cons_succ, Nat.reduceAdd] at hk
        simp only [List.getD_cons_zero, List.getD_cons_succ, Nat.reduceAdd, flowAt]
        go_simp
        exact ⟨Ext.refl _, by first | rfl | trivial⟩
      · rintro ρ w1 u hw hcst hfn hk hu
        replace hu := hid hu
        simp only [known, List.getD_cons_zero, List.getD_cons_succ, Nat.reduceAdd] at hk
        simp only [List.getD_cons_zero, List.getD_cons_succ, Nat.reduceAdd, flowAt]
        go_simp
        (unfold invAt execOp; go_simp; exact inv_drew (l05Word_any g _ _ (HS3.out.ext ((Ext.refl _).drew.trans hw)) (by omega)) (by omega) (fun v w' h => h))
    intro vs wa wb w1 hwa hr hw hf
    simp only [flowFacts, Nat.reduceAdd] at hf
    obtain ⟨e0, e1, e2, -⟩ := hf
    simp only [List.take_succ_cons, List.take_zero, List.drop_succ_cons, List.drop_zero, putAll, Act.put, Nat.reduceAdd, List.setIfInBounds_toArray, List.set_cons_zero, List.set_cons_succ, e0, e1]
    clear e0 e1
    obtain ⟨y, hy, e2v⟩ := e2
    rw [e2v]
    obtain ⟨hrX, hrS⟩ := hr
    have hwa2 := (Ext.refl _).drew.trans hwa
    have L4 := hid (((L3.out.ext hwa2).exc hrX (by have := HG.out; omega)).ext hw)
    have HX4 := hid (((HX3.out.ext hwa2).trans hrX).ext hw)
    have HS4 := hid (hrS.ext hw)
    have HD4 := hid (((HD3.out.ext hwa2).exc hrX HG.out).ext hw)
    have r4 := L4.out.cell
    have rf4 := L4.out.free 0
    have LE := L4.out.set (.slice a n c)
    have q0 := LE.cell
    have qf := LE.free 0
    clear LE hrX hrS hwa hwa2 hw e2v b0 bf
    go_wp2_with fail
    refine bodyPost_ret (v := .tuple #[.agg #[.slice a n c], .string y]) (by simp [results, Try.results37, go_sem, q0, qf]) rfl ⟨_, rfl, ⟨_, y, rfl, HD4.out.offT L4.out 0 _, by omega⟩, HX4.out.set (Nat.le_refl _) 0 _, ((HS4.out.exc ((Exc.refl w.heap.size _).setCell 0 _) HG.out).up (by omega))⟩
/-- A drawn lexicon and a drawn word come back. -/
def RetB2 (w : World) (e : Ending) (w' : World) : Prop := ∃ v, e = .returned v ∧ DrB2 w.heap.size v w' ∧ Ext w w'
/-- A text of at most some bytes. -/
def DrT (N : Nat) (v : Value) : Prop := ∃ y : ByteArray, y.size ≤ N ∧ v = .string y
end Go.Proofs.Ytaigabenlccdaaa
