/- Nodes compared, by the program and by the reference. Conditions: at most 2^20 elements. -/
import Derived.Test.YtabljchbchjjcaaGreatDoorMg3
import Derived.Lib.IndexLaws
namespace Go.Proofs.YtabljchbchjjcaaGreatDoor
set_option linter.unusedVariables false
set_option linter.unusedSimpArgs false
open Go Go.RowKit
def eqNd (a b : Nd) : Bool := (a.fin == b.fin) && (decide (a.lt = b.lt) && decide (a.nx = b.nx))
theorem str_beq (p q : ByteArray) : (p.toList == q.toList) = decide (p = q) := by
  rw [Go.Lib.toList_data, Go.Lib.toList_data, Bool.eq_iff_iff, beq_iff_eq, decide_eq_true_eq]
  refine ⟨fun h => ?_, fun h => by rw [h]⟩
  cases p
  cases q
  congr 1
  exact Array.toList_inj.1 h
/-- The cells of one node. -/
def NdAt (w : World) (b q : Nat) (f : Bool) (s : ByteArray) (a : Option Addr) (n c : Nat) : Prop :=
  w.cell? ⟨b, q, none⟩ = some (.bool f) ∧ w.cell? ⟨b, q + 1, none⟩ = some (.string s) ∧ w.cell? ⟨b, q + 2, none⟩ = some (.slice a n c)
theorem NdAt.ext {w w' : World} {b q : Nat} {f : Bool} {s : ByteArray} {a : Option Addr} {n c : Nat} (h : NdAt w b q f s a n c) (k : Ext w w') : NdAt w' b q f s a n c := ⟨k.cell h.1, k.cell h.2.1, k.cell h.2.2⟩
set_option maxHeartbeats 1000000 in
theorem l06Equal_any (f g : Bool) (s t : ByteArray) (a b : Option Addr) (c d p q p1 q1 : Nat) (xs ys : List Int) (w : World) (h0 : NdAt w p p1 f s a xs.length c) (h0' : NdAt w q q1 g t b ys.length d) (h : Rd w a (intsV xs)) (h' : Rd w b (intsV ys)) (hl : xs.length ≤ 1048576) (hl2 : ys.length ≤ 1048576) :
    Calls Tryz.prog 69 #[.pointer (some ⟨p, p1, none⟩), .pointer (some ⟨q, q1, none⟩)] w (Ret (.bool (eqNd ⟨f, s, xs⟩ ⟨g, t, ys⟩)) w) := by
  have HE : Hid (∀ w', Ext w w' → Calls Tryz.prog 90 #[.slice a xs.length c, .slice b ys.length d] w' fun e w'' => e = .returned (.bool (decide (xs = ys))) ∧ Dr w' w'') := hid (fun w' k => l00Same_any a b c d xs ys w' (h.ext k) (h'.ext k) hl hl2)
  have HD : Hid (eqNd ⟨f, s, xs⟩ ⟨g, t, ys⟩ = ((f == g) && (decide (s = t) && decide (xs = ys)))) := hid rfl
  have HB := hid (str_beq s t)
  obtain ⟨x0, x1, x2⟩ := h0
  obtain ⟨y0, y1, y2⟩ := h0'
  clear h h'
  by_cases hfg : f = g
  · subst hfg
    by_cases hst : s = t
    · subst hst
      have HN : Hid (eqNd ⟨f, s, xs⟩ ⟨f, s, ys⟩ = decide (xs = ys)) := hid (by rw [HD.out]; simp)
      obtain ⟨B, hB⟩ : ∃ B, decide (xs = ys) = B := ⟨_, rfl⟩
      rw [hB] at HN HE
      clear hB HD HB
      go_enter Tryz.func69, Tryz.ntmps69
      go_wp2_with fail
      refine wp_region_flow_at (C := Ext) 31 [fun v _ => v = .pointer (some ⟨p, p1, none⟩), fun v _ => v = .pointer (some ⟨p, p1, none⟩), fun v _ => v = .pointer (some ⟨p, p1, none⟩), fun v _ => v = .bool f, fun v _ => v = .pointer (some ⟨q, q1, none⟩), fun v _ => v = .pointer (some ⟨q, q1, none⟩), fun v _ => v = .pointer (some ⟨q, q1, none⟩), fun v _ => v = .bool f, fun v _ => v = .bool true, fun v _ => v = .bool true, fun v _ => v = .pointer (some ⟨p, p1, none⟩), fun v _ => v = .pointer (some ⟨p, p1, none⟩), fun v _ => v = .pointer (some ⟨p, p1 + 1, none⟩), fun v _ => v = .string s, fun v _ => v = .pointer (some ⟨q, q1, none⟩), fun v _ => v = .pointer (some ⟨q, q1, none⟩), fun v _ => v = .pointer (some ⟨q, q1 + 1, none⟩), fun v _ => v = .string s, fun v _ => v = .bool true, fun v _ => v = .bool true, fun v _ => v = .bool true, fun v _ => v = .pointer (some ⟨p, p1, none⟩), fun v _ => v = .pointer (some ⟨p, p1, none⟩), fun v _ => v = .pointer (some ⟨p, p1 + 2, none⟩), fun v _ => v = .slice a xs.length c, fun v _ => v = .pointer (some ⟨q, q1, none⟩), fun v _ => v = .pointer (some ⟨q, q1, none⟩), fun v _ => v = .pointer (some ⟨q, q1 + 2, none⟩), fun v _ => v = .slice b ys.length d, fun v _ => v = .bool B, fun v _ => v = .bool B]
        [[(0, none)], [(5, some 0)], [(6, some 1)], [(7, some 2)], [(1, none)], [(9, some 4)], [(10, some 5)], [(11, some 6)], [(8, some 3), (12, some 7)], [(13, some 8)], [(0, none)], [(15, some 10)], [(16, some 11)], [(17, some 12)], [(1, none)], [(19, some 14)], [(20, some 15)], [(21, some 16)], [(18, some 13), (22, some 17)], [(14, some 9), (23, some 18)], [(24, some 19)], [(0, none)], [(26, some 21)], [(27, some 22)], [(28, some 23)], [(1, none)], [(30, some 25)], [(31, some 26)], [(32, some 27)], [(29, some 24), (33, some 28)], [(25, some 20), (34, some 29)]] (by kernel_rfl) (by kernel_rfl) Ext.refl (fun _ _ _ => Ext.trans) ?_ ?_ ?_
      · intro F hF
        simp only [List.mem_cons, List.not_mem_nil, or_false] at hF
        rcases hF with rfl | rfl | rfl | rfl | rfl | rfl | rfl | rfl | rfl | rfl | rfl | rfl | rfl | rfl | rfl | rfl | rfl | rfl | rfl | rfl | rfl | rfl | rfl | rfl | rfl | rfl | rfl | rfl | rfl | rfl | rfl <;> exact fun _ _ _ h _ => h
      · refine ⟨?_, ?_, ?_, ?_, ?_, ?_, ?_, ?_, ?_, ?_, ?_, ?_, ?_, ?_, ?_, ?_, ?_, ?_, ?_, ?_, ?_, ?_, ?_, ?_, ?_, ?_, ?_, ?_, ?_, ?_, ?_, trivial⟩
        · rintro ρ w1 hw hcst hfn hk
          clear hw
          simp only [known, List.getD_cons_zero, List.getD_cons_succ, Nat.reduceAdd] at hk
          simp only [List.getD_cons_zero, List.getD_cons_succ, Nat.reduceAdd, flowAt]
          go_simp
          exact ⟨Ext.refl _, by first | rfl | trivial⟩
        · rintro ρ w1 hw hcst hfn hk
          clear hw
          simp only [known, List.getD_cons_zero, List.getD_cons_succ, Nat.reduceAdd] at hk
          simp only [List.getD_cons_zero, List.getD_cons_succ, Nat.reduceAdd, flowAt]
          go_simp
          exact ⟨Ext.refl _, by first | rfl | trivial⟩
        · rintro ρ w1 hw hcst hfn hk
          clear hw
          simp only [known, List.getD_cons_zero, List.getD_cons_succ, Nat.reduceAdd] at hk
          simp only [List.getD_cons_zero, List.getD_cons_succ, Nat.reduceAdd, flowAt]
          go_simp
          exact ⟨Ext.refl _, by first | rfl | trivial⟩
        · rintro ρ w1 hw hcst hfn hk
          have c0 := hw.cell (b := p) (o := p1) (v := .bool f) (by first | (simp [*]; done) | (simp [*, go_sem]; done) | go_cell)
          clear hw
          simp only [known, List.getD_cons_zero, List.getD_cons_succ, Nat.reduceAdd] at hk
          simp only [List.getD_cons_zero, List.getD_cons_succ, Nat.reduceAdd, flowAt]
          go_simp
          exact ⟨Ext.refl _, by first | rfl | trivial⟩
        · rintro ρ w1 hw hcst hfn hk
          clear hw
          simp only [known, List.getD_cons_zero, List.getD_cons_succ, Nat.reduceAdd] at hk
          simp only [List.getD_cons_zero, List.getD_cons_succ, Nat.reduceAdd, flowAt]
          go_simp
          exact ⟨Ext.refl _, by first | rfl | trivial⟩
        · rintro ρ w1 hw hcst hfn hk
          clear hw
          simp only [known, List.getD_cons_zero, List.getD_cons_succ, Nat.reduceAdd] at hk
          simp only [List.getD_cons_zero, List.getD_cons_succ, Nat.reduceAdd, flowAt]
          go_simp
          exact ⟨Ext.refl _, by first | rfl | trivial⟩
        · rintro ρ w1 hw hcst hfn hk
          clear hw
          simp only [known, List.getD_cons_zero, List.getD_cons_succ, Nat.reduceAdd] at hk
          simp only [List.getD_cons_zero, List.getD_cons_succ, Nat.reduceAdd, flowAt]
          go_simp
          exact ⟨Ext.refl _, by first | rfl | trivial⟩
        · rintro ρ w1 hw hcst hfn hk
          have c0 := hw.cell (b := q) (o := q1) (v := .bool f) (by first | (simp [*]; done) | (simp [*, go_sem]; done) | go_cell)
          clear hw
          simp only [known, List.getD_cons_zero, List.getD_cons_succ, Nat.reduceAdd] at hk
          simp only [List.getD_cons_zero, List.getD_cons_succ, Nat.reduceAdd, flowAt]
          go_simp
          exact ⟨Ext.refl _, by first | rfl | trivial⟩
        · rintro ρ w1 hw hcst hfn hk
          simp only [known, List.getD_cons_zero, List.getD_cons_succ, Nat.reduceAdd] at hk
          simp only [List.getD_cons_zero, List.getD_cons_succ, Nat.reduceAdd, flowAt]
          go_simp
          (first | exact ⟨Ext.refl _, by simp⟩ | exact ⟨Ext.refl _, by rfl⟩)
        · rintro ρ w1 hw hcst hfn hk
          clear hw
          simp only [known, List.getD_cons_zero, List.getD_cons_succ, Nat.reduceAdd] at hk
          simp only [List.getD_cons_zero, List.getD_cons_succ, Nat.reduceAdd, flowAt]
          go_simp
          exact ⟨Ext.refl _, by first | rfl | trivial⟩
        · rintro ρ w1 hw hcst hfn hk
          clear hw
          simp only [known, List.getD_cons_zero, List.getD_cons_succ, Nat.reduceAdd] at hk
          simp only [List.getD_cons_zero, List.getD_cons_succ, Nat.reduceAdd, flowAt]
          rintro vg rfl
          refine ⟨fun hg => ?_, fun hg => ?_⟩ <;> simp at hg
          go_simp
          exact ⟨Ext.refl _, by first | rfl | trivial⟩
        · rintro ρ w1 hw hcst hfn hk
          clear hw
          simp only [known, List.getD_cons_zero, List.getD_cons_succ, Nat.reduceAdd] at hk
          simp only [List.getD_cons_zero, List.getD_cons_succ, Nat.reduceAdd, flowAt]
          rintro vg rfl
          refine ⟨fun hg => ?_, fun hg => ?_⟩ <;> simp at hg
          go_simp
          exact ⟨Ext.refl _, by first | rfl | trivial⟩
        · rintro ρ w1 hw hcst hfn hk
          clear hw
          simp only [known, List.getD_cons_zero, List.getD_cons_succ, Nat.reduceAdd] at hk
          simp only [List.getD_cons_zero, List.getD_cons_succ, Nat.reduceAdd, flowAt]
          rintro vg rfl
          refine ⟨fun hg => ?_, fun hg => ?_⟩ <;> simp at hg
          go_simp
          exact ⟨Ext.refl _, by first | rfl | trivial⟩
        · rintro ρ w1 hw hcst hfn hk
          have c0 := hw.cell (b := p) (o := p1 + 1) (v := .string s) (by first | (simp [*]; done) | (simp [*, go_sem]; done) | go_cell)
          clear hw
          simp only [known, List.getD_cons_zero, List.getD_cons_succ, Nat.reduceAdd] at hk
          simp only [List.getD_cons_zero, List.getD_cons_succ, Nat.reduceAdd, flowAt]
          rintro vg rfl
          refine ⟨fun hg => ?_, fun hg => ?_⟩ <;> simp at hg
          go_simp
          exact ⟨Ext.refl _, by first | rfl | trivial⟩
        · rintro ρ w1 hw hcst hfn hk
          clear hw
          simp only [known, List.getD_cons_zero, List.getD_cons_succ, Nat.reduceAdd] at hk
          simp only [List.getD_cons_zero, List.getD_cons_succ, Nat.reduceAdd, flowAt]
          rintro vg rfl
          refine ⟨fun hg => ?_, fun hg => ?_⟩ <;> simp at hg
          go_simp
          exact ⟨Ext.refl _, by first | rfl | trivial⟩
        · rintro ρ w1 hw hcst hfn hk
          clear hw
          simp only [known, List.getD_cons_zero, List.getD_cons_succ, Nat.reduceAdd] at hk
          simp only [List.getD_cons_zero, List.getD_cons_succ, Nat.reduceAdd, flowAt]
          rintro vg rfl
          refine ⟨fun hg => ?_, fun hg => ?_⟩ <;> simp at hg
          go_simp
          exact ⟨Ext.refl _, by first | rfl | trivial⟩
        · rintro ρ w1 hw hcst hfn hk
          clear hw
          simp only [known, List.getD_cons_zero, List.getD_cons_succ, Nat.reduceAdd] at hk
          simp only [List.getD_cons_zero, List.getD_cons_succ, Nat.reduceAdd, flowAt]
          rintro vg rfl
          refine ⟨fun hg => ?_, fun hg => ?_⟩ <;> simp at hg
          go_simp
          exact ⟨Ext.refl _, by first | rfl | trivial⟩
        · rintro ρ w1 hw hcst hfn hk
          have c0 := hw.cell (b := q) (o := q1 + 1) (v := .string s) (by first | (simp [*]; done) | (simp [*, go_sem]; done) | go_cell)
          clear hw
          simp only [known, List.getD_cons_zero, List.getD_cons_succ, Nat.reduceAdd] at hk
          simp only [List.getD_cons_zero, List.getD_cons_succ, Nat.reduceAdd, flowAt]
          rintro vg rfl
          refine ⟨fun hg => ?_, fun hg => ?_⟩ <;> simp at hg
          go_simp
          exact ⟨Ext.refl _, by first | rfl | trivial⟩
        · rintro ρ w1 hw hcst hfn hk
          simp only [known, List.getD_cons_zero, List.getD_cons_succ, Nat.reduceAdd] at hk
          simp only [List.getD_cons_zero, List.getD_cons_succ, Nat.reduceAdd, flowAt]
          rintro vg rfl
          refine ⟨fun hg => ?_, fun hg => ?_⟩ <;> simp at hg
          go_simp
          (first | exact ⟨Ext.refl _, by simp⟩ | exact ⟨Ext.refl _, by rfl⟩)
        · rintro ρ w1 hw hcst hfn hk
          clear hw
          simp only [known, List.getD_cons_zero, List.getD_cons_succ, Nat.reduceAdd] at hk
          simp only [List.getD_cons_zero, List.getD_cons_succ, Nat.reduceAdd, flowAt]
          go_simp
          exact ⟨Ext.refl _, by first | rfl | trivial⟩
        · rintro ρ w1 hw hcst hfn hk
          clear hw
          simp only [known, List.getD_cons_zero, List.getD_cons_succ, Nat.reduceAdd] at hk
          simp only [List.getD_cons_zero, List.getD_cons_succ, Nat.reduceAdd, flowAt]
          go_simp
          exact ⟨Ext.refl _, by first | rfl | trivial⟩
        · rintro ρ w1 hw hcst hfn hk
          clear hw
          simp only [known, List.getD_cons_zero, List.getD_cons_succ, Nat.reduceAdd] at hk
          simp only [List.getD_cons_zero, List.getD_cons_succ, Nat.reduceAdd, flowAt]
          rintro vg rfl
          refine ⟨fun hg => ?_, fun hg => ?_⟩ <;> simp at hg
          go_simp
          exact ⟨Ext.refl _, by first | rfl | trivial⟩
        · rintro ρ w1 hw hcst hfn hk
          clear hw
          simp only [known, List.getD_cons_zero, List.getD_cons_succ, Nat.reduceAdd] at hk
          simp only [List.getD_cons_zero, List.getD_cons_succ, Nat.reduceAdd, flowAt]
          rintro vg rfl
          refine ⟨fun hg => ?_, fun hg => ?_⟩ <;> simp at hg
          go_simp
          exact ⟨Ext.refl _, by first | rfl | trivial⟩
        · rintro ρ w1 hw hcst hfn hk
          clear hw
          simp only [known, List.getD_cons_zero, List.getD_cons_succ, Nat.reduceAdd] at hk
          simp only [List.getD_cons_zero, List.getD_cons_succ, Nat.reduceAdd, flowAt]
          rintro vg rfl
          refine ⟨fun hg => ?_, fun hg => ?_⟩ <;> simp at hg
          go_simp
          exact ⟨Ext.refl _, by first | rfl | trivial⟩
        · rintro ρ w1 hw hcst hfn hk
          have c0 := hw.cell (b := p) (o := p1 + 2) (v := .slice a xs.length c) (by first | (simp [*]; done) | (simp [*, go_sem]; done) | go_cell)
          clear hw
          simp only [known, List.getD_cons_zero, List.getD_cons_succ, Nat.reduceAdd] at hk
          simp only [List.getD_cons_zero, List.getD_cons_succ, Nat.reduceAdd, flowAt]
          rintro vg rfl
          refine ⟨fun hg => ?_, fun hg => ?_⟩ <;> simp at hg
          go_simp
          exact ⟨Ext.refl _, by first | rfl | trivial⟩
        · rintro ρ w1 hw hcst hfn hk
          clear hw
          simp only [known, List.getD_cons_zero, List.getD_cons_succ, Nat.reduceAdd] at hk
          simp only [List.getD_cons_zero, List.getD_cons_succ, Nat.reduceAdd, flowAt]
          rintro vg rfl
          refine ⟨fun hg => ?_, fun hg => ?_⟩ <;> simp at hg
          go_simp
          exact ⟨Ext.refl _, by first | rfl | trivial⟩
        · rintro ρ w1 hw hcst hfn hk
          clear hw
          simp only [known, List.getD_cons_zero, List.getD_cons_succ, Nat.reduceAdd] at hk
          simp only [List.getD_cons_zero, List.getD_cons_succ, Nat.reduceAdd, flowAt]
          rintro vg rfl
          refine ⟨fun hg => ?_, fun hg => ?_⟩ <;> simp at hg
          go_simp
          exact ⟨Ext.refl _, by first | rfl | trivial⟩
        · rintro ρ w1 hw hcst hfn hk
          clear hw
          simp only [known, List.getD_cons_zero, List.getD_cons_succ, Nat.reduceAdd] at hk
          simp only [List.getD_cons_zero, List.getD_cons_succ, Nat.reduceAdd, flowAt]
          rintro vg rfl
          refine ⟨fun hg => ?_, fun hg => ?_⟩ <;> simp at hg
          go_simp
          exact ⟨Ext.refl _, by first | rfl | trivial⟩
        · rintro ρ w1 hw hcst hfn hk
          have c0 := hw.cell (b := q) (o := q1 + 2) (v := .slice b ys.length d) (by first | (simp [*]; done) | (simp [*, go_sem]; done) | go_cell)
          clear hw
          simp only [known, List.getD_cons_zero, List.getD_cons_succ, Nat.reduceAdd] at hk
          simp only [List.getD_cons_zero, List.getD_cons_succ, Nat.reduceAdd, flowAt]
          rintro vg rfl
          refine ⟨fun hg => ?_, fun hg => ?_⟩ <;> simp at hg
          go_simp
          exact ⟨Ext.refl _, by first | rfl | trivial⟩
        · rintro ρ w1 hw hcst hfn hk
          simp only [known, List.getD_cons_zero, List.getD_cons_succ, Nat.reduceAdd] at hk
          simp only [List.getD_cons_zero, List.getD_cons_succ, Nat.reduceAdd, flowAt]
          rintro vg rfl
          refine ⟨fun hg => ?_, fun hg => ?_⟩ <;> simp at hg
          go_simp
          (exact flow_dr (HE.out _ ((Ext.refl _).drew.trans hw)))
        · rintro ρ w1 hw hcst hfn hk
          clear hw
          simp only [known, List.getD_cons_zero, List.getD_cons_succ, Nat.reduceAdd] at hk
          simp only [List.getD_cons_zero, List.getD_cons_succ, Nat.reduceAdd, flowAt]
          go_simp
          exact ⟨Ext.refl _, by first | rfl | trivial⟩
      intro vs w1 hw hf
      simp only [flowFacts, Nat.reduceAdd] at hf
      obtain ⟨e0, e1, e2, e3, e4, e5, e6, e7, e8, e9, e10, e11, e12, e13, e14, e15, e16, e17, e18, e19, e20, e21, e22, e23, e24, e25, e26, e27, e28, e29, e30, -⟩ := hf
      simp only [List.take_succ_cons, List.take_zero, List.drop_succ_cons, List.drop_zero, putAll, Act.put, Nat.reduceAdd, List.setIfInBounds_toArray, List.set_cons_zero, List.set_cons_succ, e0, e1, e2, e3, e4, e5, e6, e7, e8, e9, e10, e11, e12, e13, e14, e15, e16, e17, e18, e19, e20, e21, e22, e23, e24, e25, e26, e27, e28, e29, e30]
      clear e0 e1 e2 e3 e4 e5 e6 e7 e8 e9 e10 e11 e12 e13 e14 e15 e16 e17 e18 e19 e20 e21 e22 e23 e24 e25 e26 e27 e28 e29 e30
      have hx := (Ext.refl _).drew.trans hw
      clear hw
      go_wp2_with fail
      go_returns
      exact ⟨by rw [HN.out]; rfl, hx⟩
    · have hb2 : (s.toList == t.toList) = false := by rw [HB.out]; exact decide_eq_false hst
      have HN : Hid (eqNd ⟨f, s, xs⟩ ⟨f, t, ys⟩ = false) := hid (by rw [HD.out, decide_eq_false hst]; simp)
      clear HD HB
      go_enter Tryz.func69, Tryz.ntmps69
      go_wp2_with fail
      refine wp_region_flow_at (C := Ext) 31 [fun v _ => v = .pointer (some ⟨p, p1, none⟩), fun v _ => v = .pointer (some ⟨p, p1, none⟩), fun v _ => v = .pointer (some ⟨p, p1, none⟩), fun v _ => v = .bool f, fun v _ => v = .pointer (some ⟨q, q1, none⟩), fun v _ => v = .pointer (some ⟨q, q1, none⟩), fun v _ => v = .pointer (some ⟨q, q1, none⟩), fun v _ => v = .bool f, fun v _ => v = .bool true, fun v _ => v = .bool true, fun v _ => v = .pointer (some ⟨p, p1, none⟩), fun v _ => v = .pointer (some ⟨p, p1, none⟩), fun v _ => v = .pointer (some ⟨p, p1 + 1, none⟩), fun v _ => v = .string s, fun v _ => v = .pointer (some ⟨q, q1, none⟩), fun v _ => v = .pointer (some ⟨q, q1, none⟩), fun v _ => v = .pointer (some ⟨q, q1 + 1, none⟩), fun v _ => v = .string t, fun v _ => v = .bool false, fun v _ => v = .bool false, fun v _ => v = .bool false, fun v _ => v = undef, fun v _ => v = undef, fun v _ => v = undef, fun v _ => v = undef, fun v _ => v = undef, fun v _ => v = undef, fun v _ => v = undef, fun v _ => v = undef, fun v _ => v = undef, fun v _ => v = .bool false]
        [[(0, none)], [(5, some 0)], [(6, some 1)], [(7, some 2)], [(1, none)], [(9, some 4)], [(10, some 5)], [(11, some 6)], [(8, some 3), (12, some 7)], [(13, some 8)], [(0, none)], [(15, some 10)], [(16, some 11)], [(17, some 12)], [(1, none)], [(19, some 14)], [(20, some 15)], [(21, some 16)], [(18, some 13), (22, some 17)], [(14, some 9), (23, some 18)], [(24, some 19)], [(0, none)], [(26, some 21)], [(27, some 22)], [(28, some 23)], [(1, none)], [(30, some 25)], [(31, some 26)], [(32, some 27)], [(29, some 24), (33, some 28)], [(25, some 20), (34, some 29)]] (by kernel_rfl) (by kernel_rfl) Ext.refl (fun _ _ _ => Ext.trans) ?_ ?_ ?_
      · intro F hF
        simp only [List.mem_cons, List.not_mem_nil, or_false] at hF
        rcases hF with rfl | rfl | rfl | rfl | rfl | rfl | rfl | rfl | rfl | rfl | rfl | rfl | rfl | rfl | rfl | rfl | rfl | rfl | rfl | rfl | rfl | rfl | rfl | rfl | rfl | rfl | rfl | rfl | rfl | rfl | rfl <;> exact fun _ _ _ h _ => h
      · refine ⟨?_, ?_, ?_, ?_, ?_, ?_, ?_, ?_, ?_, ?_, ?_, ?_, ?_, ?_, ?_, ?_, ?_, ?_, ?_, ?_, ?_, ?_, ?_, ?_, ?_, ?_, ?_, ?_, ?_, ?_, ?_, trivial⟩
        · rintro ρ w1 hw hcst hfn hk
          clear hw
          simp only [known, List.getD_cons_zero, List.getD_cons_succ, Nat.reduceAdd] at hk
          simp only [List.getD_cons_zero, List.getD_cons_succ, Nat.reduceAdd, flowAt]
          go_simp
          exact ⟨Ext.refl _, by first | rfl | trivial⟩
        · rintro ρ w1 hw hcst hfn hk
          clear hw
          simp only [known, List.getD_cons_zero, List.getD_cons_succ, Nat.reduceAdd] at hk
          simp only [List.getD_cons_zero, List.getD_cons_succ, Nat.reduceAdd, flowAt]
          go_simp
          exact ⟨Ext.refl _, by first | rfl | trivial⟩
        · rintro ρ w1 hw hcst hfn hk
          clear hw
          simp only [known, List.getD_cons_zero, List.getD_cons_succ, Nat.reduceAdd] at hk
          simp only [List.getD_cons_zero, List.getD_cons_succ, Nat.reduceAdd, flowAt]
          go_simp
          exact ⟨Ext.refl _, by first | rfl | trivial⟩
        · rintro ρ w1 hw hcst hfn hk
          have c0 := hw.cell (b := p) (o := p1) (v := .bool f) (by first | (simp [*]; done) | (simp [*, go_sem]; done) | go_cell)
          clear hw
          simp only [known, List.getD_cons_zero, List.getD_cons_succ, Nat.reduceAdd] at hk
          simp only [List.getD_cons_zero, List.getD_cons_succ, Nat.reduceAdd, flowAt]
          go_simp
          exact ⟨Ext.refl _, by first | rfl | trivial⟩
        · rintro ρ w1 hw hcst hfn hk
          clear hw
          simp only [known, List.getD_cons_zero, List.getD_cons_succ, Nat.reduceAdd] at hk
          simp only [List.getD_cons_zero, List.getD_cons_succ, Nat.reduceAdd, flowAt]
          go_simp
          exact ⟨Ext.refl _, by first | rfl | trivial⟩
        · rintro ρ w1 hw hcst hfn hk
          clear hw
          simp only [known, List.getD_cons_zero, List.getD_cons_succ, Nat.reduceAdd] at hk
          simp only [List.getD_cons_zero, List.getD_cons_succ, Nat.reduceAdd, flowAt]
          go_simp
          exact ⟨Ext.refl _, by first | rfl | trivial⟩
        · rintro ρ w1 hw hcst hfn hk
          clear hw
          simp only [known, List.getD_cons_zero, List.getD_cons_succ, Nat.reduceAdd] at hk
          simp only [List.getD_cons_zero, List.getD_cons_succ, Nat.reduceAdd, flowAt]
          go_simp
          exact ⟨Ext.refl _, by first | rfl | trivial⟩
        · rintro ρ w1 hw hcst hfn hk
          have c0 := hw.cell (b := q) (o := q1) (v := .bool f) (by first | (simp [*]; done) | (simp [*, go_sem]; done) | go_cell)
          clear hw
          simp only [known, List.getD_cons_zero, List.getD_cons_succ, Nat.reduceAdd] at hk
          simp only [List.getD_cons_zero, List.getD_cons_succ, Nat.reduceAdd, flowAt]
          go_simp
          exact ⟨Ext.refl _, by first | rfl | trivial⟩
        · rintro ρ w1 hw hcst hfn hk
          simp only [known, List.getD_cons_zero, List.getD_cons_succ, Nat.reduceAdd] at hk
          simp only [List.getD_cons_zero, List.getD_cons_succ, Nat.reduceAdd, flowAt]
          go_simp
          (first | exact ⟨Ext.refl _, by simp⟩ | exact ⟨Ext.refl _, by rfl⟩ | exact ⟨Ext.refl _, by rw [hb1]⟩ | exact ⟨Ext.refl _, congrArg Value.bool hb1⟩)
        · rintro ρ w1 hw hcst hfn hk
          clear hw
          simp only [known, List.getD_cons_zero, List.getD_cons_succ, Nat.reduceAdd] at hk
          simp only [List.getD_cons_zero, List.getD_cons_succ, Nat.reduceAdd, flowAt]
          go_simp
          exact ⟨Ext.refl _, by first | rfl | trivial⟩
        · rintro ρ w1 hw hcst hfn hk
          clear hw
          simp only [known, List.getD_cons_zero, List.getD_cons_succ, Nat.reduceAdd] at hk
          simp only [List.getD_cons_zero, List.getD_cons_succ, Nat.reduceAdd, flowAt]
          rintro vg rfl
          refine ⟨fun hg => ?_, fun hg => ?_⟩ <;> simp at hg
          go_simp
          exact ⟨Ext.refl _, by first | rfl | trivial⟩
        · rintro ρ w1 hw hcst hfn hk
          clear hw
          simp only [known, List.getD_cons_zero, List.getD_cons_succ, Nat.reduceAdd] at hk
          simp only [List.getD_cons_zero, List.getD_cons_succ, Nat.reduceAdd, flowAt]
          rintro vg rfl
          refine ⟨fun hg => ?_, fun hg => ?_⟩ <;> simp at hg
          go_simp
          exact ⟨Ext.refl _, by first | rfl | trivial⟩
        · rintro ρ w1 hw hcst hfn hk
          clear hw
          simp only [known, List.getD_cons_zero, List.getD_cons_succ, Nat.reduceAdd] at hk
          simp only [List.getD_cons_zero, List.getD_cons_succ, Nat.reduceAdd, flowAt]
          rintro vg rfl
          refine ⟨fun hg => ?_, fun hg => ?_⟩ <;> simp at hg
          go_simp
          exact ⟨Ext.refl _, by first | rfl | trivial⟩
        · rintro ρ w1 hw hcst hfn hk
          have c0 := hw.cell (b := p) (o := p1 + 1) (v := .string s) (by first | (simp [*]; done) | (simp [*, go_sem]; done) | go_cell)
          clear hw
          simp only [known, List.getD_cons_zero, List.getD_cons_succ, Nat.reduceAdd] at hk
          simp only [List.getD_cons_zero, List.getD_cons_succ, Nat.reduceAdd, flowAt]
          rintro vg rfl
          refine ⟨fun hg => ?_, fun hg => ?_⟩ <;> simp at hg
          go_simp
          exact ⟨Ext.refl _, by first | rfl | trivial⟩
        · rintro ρ w1 hw hcst hfn hk
          clear hw
          simp only [known, List.getD_cons_zero, List.getD_cons_succ, Nat.reduceAdd] at hk
          simp only [List.getD_cons_zero, List.getD_cons_succ, Nat.reduceAdd, flowAt]
          rintro vg rfl
          refine ⟨fun hg => ?_, fun hg => ?_⟩ <;> simp at hg
          go_simp
          exact ⟨Ext.refl _, by first | rfl | trivial⟩
        · rintro ρ w1 hw hcst hfn hk
          clear hw
          simp only [known, List.getD_cons_zero, List.getD_cons_succ, Nat.reduceAdd] at hk
          simp only [List.getD_cons_zero, List.getD_cons_succ, Nat.reduceAdd, flowAt]
          rintro vg rfl
          refine ⟨fun hg => ?_, fun hg => ?_⟩ <;> simp at hg
          go_simp
          exact ⟨Ext.refl _, by first | rfl | trivial⟩
        · rintro ρ w1 hw hcst hfn hk
          clear hw
          simp only [known, List.getD_cons_zero, List.getD_cons_succ, Nat.reduceAdd] at hk
          simp only [List.getD_cons_zero, List.getD_cons_succ, Nat.reduceAdd, flowAt]
          rintro vg rfl
          refine ⟨fun hg => ?_, fun hg => ?_⟩ <;> simp at hg
          go_simp
          exact ⟨Ext.refl _, by first | rfl | trivial⟩
        · rintro ρ w1 hw hcst hfn hk
          have c0 := hw.cell (b := q) (o := q1 + 1) (v := .string t) (by first | (simp [*]; done) | (simp [*, go_sem]; done) | go_cell)
          clear hw
          simp only [known, List.getD_cons_zero, List.getD_cons_succ, Nat.reduceAdd] at hk
          simp only [List.getD_cons_zero, List.getD_cons_succ, Nat.reduceAdd, flowAt]
          rintro vg rfl
          refine ⟨fun hg => ?_, fun hg => ?_⟩ <;> simp at hg
          go_simp
          exact ⟨Ext.refl _, by first | rfl | trivial⟩
        · rintro ρ w1 hw hcst hfn hk
          simp only [known, List.getD_cons_zero, List.getD_cons_succ, Nat.reduceAdd] at hk
          simp only [List.getD_cons_zero, List.getD_cons_succ, Nat.reduceAdd, flowAt]
          rintro vg rfl
          refine ⟨fun hg => ?_, fun hg => ?_⟩ <;> simp at hg
          go_simp
          (first | exact ⟨Ext.refl _, by rw [hb2]⟩ | exact ⟨Ext.refl _, congrArg Value.bool hb2⟩ | exact ⟨Ext.refl _, by simp [hb2]⟩)
        · rintro ρ w1 hw hcst hfn hk
          clear hw
          simp only [known, List.getD_cons_zero, List.getD_cons_succ, Nat.reduceAdd] at hk
          simp only [List.getD_cons_zero, List.getD_cons_succ, Nat.reduceAdd, flowAt]
          go_simp
          exact ⟨Ext.refl _, by first | rfl | trivial⟩
        · rintro ρ w1 hw hcst hfn hk
          clear hw
          simp only [known, List.getD_cons_zero, List.getD_cons_succ, Nat.reduceAdd] at hk
          simp only [List.getD_cons_zero, List.getD_cons_succ, Nat.reduceAdd, flowAt]
          go_simp
          exact ⟨Ext.refl _, by first | rfl | trivial⟩
        · rintro ρ w1 hw hcst hfn hk
          clear hw
          simp only [known, List.getD_cons_zero, List.getD_cons_succ, Nat.reduceAdd] at hk
          simp only [List.getD_cons_zero, List.getD_cons_succ, Nat.reduceAdd, flowAt]
          rintro vg rfl
          refine ⟨fun hg => ?_, fun hg => ?_⟩ <;> simp at hg
          first | exact trivial | exact rfl
        · rintro ρ w1 hw hcst hfn hk
          clear hw
          simp only [known, List.getD_cons_zero, List.getD_cons_succ, Nat.reduceAdd] at hk
          simp only [List.getD_cons_zero, List.getD_cons_succ, Nat.reduceAdd, flowAt]
          rintro vg rfl
          refine ⟨fun hg => ?_, fun hg => ?_⟩ <;> simp at hg
          first | exact trivial | exact rfl
        · rintro ρ w1 hw hcst hfn hk
          clear hw
          simp only [known, List.getD_cons_zero, List.getD_cons_succ, Nat.reduceAdd] at hk
          simp only [List.getD_cons_zero, List.getD_cons_succ, Nat.reduceAdd, flowAt]
          rintro vg rfl
          refine ⟨fun hg => ?_, fun hg => ?_⟩ <;> simp at hg
          first | exact trivial | exact rfl
        · rintro ρ w1 hw hcst hfn hk
          clear hw
          simp only [known, List.getD_cons_zero, List.getD_cons_succ, Nat.reduceAdd] at hk
          simp only [List.getD_cons_zero, List.getD_cons_succ, Nat.reduceAdd, flowAt]
          rintro vg rfl
          refine ⟨fun hg => ?_, fun hg => ?_⟩ <;> simp at hg
          first | exact trivial | exact rfl
        · rintro ρ w1 hw hcst hfn hk
          clear hw
          simp only [known, List.getD_cons_zero, List.getD_cons_succ, Nat.reduceAdd] at hk
          simp only [List.getD_cons_zero, List.getD_cons_succ, Nat.reduceAdd, flowAt]
          rintro vg rfl
          refine ⟨fun hg => ?_, fun hg => ?_⟩ <;> simp at hg
          first | exact trivial | exact rfl
        · rintro ρ w1 hw hcst hfn hk
          clear hw
          simp only [known, List.getD_cons_zero, List.getD_cons_succ, Nat.reduceAdd] at hk
          simp only [List.getD_cons_zero, List.getD_cons_succ, Nat.reduceAdd, flowAt]
          rintro vg rfl
          refine ⟨fun hg => ?_, fun hg => ?_⟩ <;> simp at hg
          first | exact trivial | exact rfl
        · rintro ρ w1 hw hcst hfn hk
          clear hw
          simp only [known, List.getD_cons_zero, List.getD_cons_succ, Nat.reduceAdd] at hk
          simp only [List.getD_cons_zero, List.getD_cons_succ, Nat.reduceAdd, flowAt]
          rintro vg rfl
          refine ⟨fun hg => ?_, fun hg => ?_⟩ <;> simp at hg
          first | exact trivial | exact rfl
        · rintro ρ w1 hw hcst hfn hk
          clear hw
          simp only [known, List.getD_cons_zero, List.getD_cons_succ, Nat.reduceAdd] at hk
          simp only [List.getD_cons_zero, List.getD_cons_succ, Nat.reduceAdd, flowAt]
          rintro vg rfl
          refine ⟨fun hg => ?_, fun hg => ?_⟩ <;> simp at hg
          first | exact trivial | exact rfl
        · rintro ρ w1 hw hcst hfn hk
          clear hw
          simp only [known, List.getD_cons_zero, List.getD_cons_succ, Nat.reduceAdd] at hk
          simp only [List.getD_cons_zero, List.getD_cons_succ, Nat.reduceAdd, flowAt]
          rintro vg rfl
          refine ⟨fun hg => ?_, fun hg => ?_⟩ <;> simp at hg
          first | exact trivial | exact rfl
        · rintro ρ w1 hw hcst hfn hk
          clear hw
          simp only [known, List.getD_cons_zero, List.getD_cons_succ, Nat.reduceAdd] at hk
          simp only [List.getD_cons_zero, List.getD_cons_succ, Nat.reduceAdd, flowAt]
          go_simp
          exact ⟨Ext.refl _, by first | rfl | trivial⟩
      intro vs w1 hw hf
      simp only [flowFacts, Nat.reduceAdd] at hf
      obtain ⟨e0, e1, e2, e3, e4, e5, e6, e7, e8, e9, e10, e11, e12, e13, e14, e15, e16, e17, e18, e19, e20, e21, e22, e23, e24, e25, e26, e27, e28, e29, e30, -⟩ := hf
      simp only [List.take_succ_cons, List.take_zero, List.drop_succ_cons, List.drop_zero, putAll, Act.put, Nat.reduceAdd, List.setIfInBounds_toArray, List.set_cons_zero, List.set_cons_succ, e0, e1, e2, e3, e4, e5, e6, e7, e8, e9, e10, e11, e12, e13, e14, e15, e16, e17, e18, e19, e20, e21, e22, e23, e24, e25, e26, e27, e28, e29, e30]
      clear e0 e1 e2 e3 e4 e5 e6 e7 e8 e9 e10 e11 e12 e13 e14 e15 e16 e17 e18 e19 e20 e21 e22 e23 e24 e25 e26 e27 e28 e29 e30
      have hx := (Ext.refl _).drew.trans hw
      clear hw
      go_wp2_with fail
      go_returns
      exact ⟨by rw [HN.out]; rfl, hx⟩
  · have hb1 : (f == g) = false := by simpa using hfg
    have HN : Hid (eqNd ⟨f, s, xs⟩ ⟨g, t, ys⟩ = false) := hid (by rw [HD.out, hb1]; rfl)
    clear HD HB
    go_enter Tryz.func69, Tryz.ntmps69
    go_wp2_with fail
    refine wp_region_flow_at (C := Ext) 31 [fun v _ => v = .pointer (some ⟨p, p1, none⟩), fun v _ => v = .pointer (some ⟨p, p1, none⟩), fun v _ => v = .pointer (some ⟨p, p1, none⟩), fun v _ => v = .bool f, fun v _ => v = .pointer (some ⟨q, q1, none⟩), fun v _ => v = .pointer (some ⟨q, q1, none⟩), fun v _ => v = .pointer (some ⟨q, q1, none⟩), fun v _ => v = .bool g, fun v _ => v = .bool false, fun v _ => v = .bool false, fun v _ => v = undef, fun v _ => v = undef, fun v _ => v = undef, fun v _ => v = undef, fun v _ => v = undef, fun v _ => v = undef, fun v _ => v = undef, fun v _ => v = undef, fun v _ => v = undef, fun v _ => v = .bool false, fun v _ => v = .bool false, fun v _ => v = undef, fun v _ => v = undef, fun v _ => v = undef, fun v _ => v = undef, fun v _ => v = undef, fun v _ => v = undef, fun v _ => v = undef, fun v _ => v = undef, fun v _ => v = undef, fun v _ => v = .bool false]
      [[(0, none)], [(5, some 0)], [(6, some 1)], [(7, some 2)], [(1, none)], [(9, some 4)], [(10, some 5)], [(11, some 6)], [(8, some 3), (12, some 7)], [(13, some 8)], [(0, none)], [(15, some 10)], [(16, some 11)], [(17, some 12)], [(1, none)], [(19, some 14)], [(20, some 15)], [(21, some 16)], [(18, some 13), (22, some 17)], [(14, some 9), (23, some 18)], [(24, some 19)], [(0, none)], [(26, some 21)], [(27, some 22)], [(28, some 23)], [(1, none)], [(30, some 25)], [(31, some 26)], [(32, some 27)], [(29, some 24), (33, some 28)], [(25, some 20), (34, some 29)]] (by kernel_rfl) (by kernel_rfl) Ext.refl (fun _ _ _ => Ext.trans) ?_ ?_ ?_
    · intro F hF
      simp only [List.mem_cons, List.not_mem_nil, or_false] at hF
      rcases hF with rfl | rfl | rfl | rfl | rfl | rfl | rfl | rfl | rfl | rfl | rfl | rfl | rfl | rfl | rfl | rfl | rfl | rfl | rfl | rfl | rfl | rfl | rfl | rfl | rfl | rfl | rfl | rfl | rfl | rfl | rfl <;> exact fun _ _ _ h _ => h
    · refine ⟨?_, ?_, ?_, ?_, ?_, ?_, ?_, ?_, ?_, ?_, ?_, ?_, ?_, ?_, ?_, ?_, ?_, ?_, ?_, ?_, ?_, ?_, ?_, ?_, ?_, ?_, ?_, ?_, ?_, ?_, ?_, trivial⟩
      · rintro ρ w1 hw hcst hfn hk
        clear hw
        simp only [known, List.getD_cons_zero, List.getD_cons_succ, Nat.reduceAdd] at hk
        simp only [List.getD_cons_zero, List.getD_cons_succ, Nat.reduceAdd, flowAt]
        go_simp
        exact ⟨Ext.refl _, by first | rfl | trivial⟩
      · rintro ρ w1 hw hcst hfn hk
        clear hw
        simp only [known, List.getD_cons_zero, List.getD_cons_succ, Nat.reduceAdd] at hk
        simp only [List.getD_cons_zero, List.getD_cons_succ, Nat.reduceAdd, flowAt]
        go_simp
        exact ⟨Ext.refl _, by first | rfl | trivial⟩
      · rintro ρ w1 hw hcst hfn hk
        clear hw
        simp only [known, List.getD_cons_zero, List.getD_cons_succ, Nat.reduceAdd] at hk
        simp only [List.getD_cons_zero, List.getD_cons_succ, Nat.reduceAdd, flowAt]
        go_simp
        exact ⟨Ext.refl _, by first | rfl | trivial⟩
      · rintro ρ w1 hw hcst hfn hk
        have c0 := hw.cell (b := p) (o := p1) (v := .bool f) (by first | (simp [*]; done) | (simp [*, go_sem]; done) | go_cell)
        clear hw
        simp only [known, List.getD_cons_zero, List.getD_cons_succ, Nat.reduceAdd] at hk
        simp only [List.getD_cons_zero, List.getD_cons_succ, Nat.reduceAdd, flowAt]
        go_simp
        exact ⟨Ext.refl _, by first | rfl | trivial⟩
      · rintro ρ w1 hw hcst hfn hk
        clear hw
        simp only [known, List.getD_cons_zero, List.getD_cons_succ, Nat.reduceAdd] at hk
        simp only [List.getD_cons_zero, List.getD_cons_succ, Nat.reduceAdd, flowAt]
        go_simp
        exact ⟨Ext.refl _, by first | rfl | trivial⟩
      · rintro ρ w1 hw hcst hfn hk
        clear hw
        simp only [known, List.getD_cons_zero, List.getD_cons_succ, Nat.reduceAdd] at hk
        simp only [List.getD_cons_zero, List.getD_cons_succ, Nat.reduceAdd, flowAt]
        go_simp
        exact ⟨Ext.refl _, by first | rfl | trivial⟩
      · rintro ρ w1 hw hcst hfn hk
        clear hw
        simp only [known, List.getD_cons_zero, List.getD_cons_succ, Nat.reduceAdd] at hk
        simp only [List.getD_cons_zero, List.getD_cons_succ, Nat.reduceAdd, flowAt]
        go_simp
        exact ⟨Ext.refl _, by first | rfl | trivial⟩
      · rintro ρ w1 hw hcst hfn hk
        have c0 := hw.cell (b := q) (o := q1) (v := .bool g) (by first | (simp [*]; done) | (simp [*, go_sem]; done) | go_cell)
        clear hw
        simp only [known, List.getD_cons_zero, List.getD_cons_succ, Nat.reduceAdd] at hk
        simp only [List.getD_cons_zero, List.getD_cons_succ, Nat.reduceAdd, flowAt]
        go_simp
        exact ⟨Ext.refl _, by first | rfl | trivial⟩
      · rintro ρ w1 hw hcst hfn hk
        simp only [known, List.getD_cons_zero, List.getD_cons_succ, Nat.reduceAdd] at hk
        simp only [List.getD_cons_zero, List.getD_cons_succ, Nat.reduceAdd, flowAt]
        go_simp
        (first | exact ⟨Ext.refl _, by simp⟩ | exact ⟨Ext.refl _, by rfl⟩ | exact ⟨Ext.refl _, by rw [hb1]⟩ | exact ⟨Ext.refl _, congrArg Value.bool hb1⟩)
      · rintro ρ w1 hw hcst hfn hk
        clear hw
        simp only [known, List.getD_cons_zero, List.getD_cons_succ, Nat.reduceAdd] at hk
        simp only [List.getD_cons_zero, List.getD_cons_succ, Nat.reduceAdd, flowAt]
        go_simp
        exact ⟨Ext.refl _, by first | rfl | trivial⟩
      · rintro ρ w1 hw hcst hfn hk
        clear hw
        simp only [known, List.getD_cons_zero, List.getD_cons_succ, Nat.reduceAdd] at hk
        simp only [List.getD_cons_zero, List.getD_cons_succ, Nat.reduceAdd, flowAt]
        rintro vg rfl
        refine ⟨fun hg => ?_, fun hg => ?_⟩ <;> simp at hg
        first | exact trivial | exact rfl
      · rintro ρ w1 hw hcst hfn hk
        clear hw
        simp only [known, List.getD_cons_zero, List.getD_cons_succ, Nat.reduceAdd] at hk
        simp only [List.getD_cons_zero, List.getD_cons_succ, Nat.reduceAdd, flowAt]
        rintro vg rfl
        refine ⟨fun hg => ?_, fun hg => ?_⟩ <;> simp at hg
        first | exact trivial | exact rfl
      · rintro ρ w1 hw hcst hfn hk
        clear hw
        simp only [known, List.getD_cons_zero, List.getD_cons_succ, Nat.reduceAdd] at hk
        simp only [List.getD_cons_zero, List.getD_cons_succ, Nat.reduceAdd, flowAt]
        rintro vg rfl
        refine ⟨fun hg => ?_, fun hg => ?_⟩ <;> simp at hg
        first | exact trivial | exact rfl
      · rintro ρ w1 hw hcst hfn hk
        clear hw
        simp only [known, List.getD_cons_zero, List.getD_cons_succ, Nat.reduceAdd] at hk
        simp only [List.getD_cons_zero, List.getD_cons_succ, Nat.reduceAdd, flowAt]
        rintro vg rfl
        refine ⟨fun hg => ?_, fun hg => ?_⟩ <;> simp at hg
        first | exact trivial | exact rfl
      · rintro ρ w1 hw hcst hfn hk
        clear hw
        simp only [known, List.getD_cons_zero, List.getD_cons_succ, Nat.reduceAdd] at hk
        simp only [List.getD_cons_zero, List.getD_cons_succ, Nat.reduceAdd, flowAt]
        rintro vg rfl
        refine ⟨fun hg => ?_, fun hg => ?_⟩ <;> simp at hg
        first | exact trivial | exact rfl
      · rintro ρ w1 hw hcst hfn hk
        clear hw
        simp only [known, List.getD_cons_zero, List.getD_cons_succ, Nat.reduceAdd] at hk
        simp only [List.getD_cons_zero, List.getD_cons_succ, Nat.reduceAdd, flowAt]
        rintro vg rfl
        refine ⟨fun hg => ?_, fun hg => ?_⟩ <;> simp at hg
        first | exact trivial | exact rfl
      · rintro ρ w1 hw hcst hfn hk
        clear hw
        simp only [known, List.getD_cons_zero, List.getD_cons_succ, Nat.reduceAdd] at hk
        simp only [List.getD_cons_zero, List.getD_cons_succ, Nat.reduceAdd, flowAt]
        rintro vg rfl
        refine ⟨fun hg => ?_, fun hg => ?_⟩ <;> simp at hg
        first | exact trivial | exact rfl
      · rintro ρ w1 hw hcst hfn hk
        clear hw
        simp only [known, List.getD_cons_zero, List.getD_cons_succ, Nat.reduceAdd] at hk
        simp only [List.getD_cons_zero, List.getD_cons_succ, Nat.reduceAdd, flowAt]
        rintro vg rfl
        refine ⟨fun hg => ?_, fun hg => ?_⟩ <;> simp at hg
        first | exact trivial | exact rfl
      · rintro ρ w1 hw hcst hfn hk
        clear hw
        simp only [known, List.getD_cons_zero, List.getD_cons_succ, Nat.reduceAdd] at hk
        simp only [List.getD_cons_zero, List.getD_cons_succ, Nat.reduceAdd, flowAt]
        rintro vg rfl
        refine ⟨fun hg => ?_, fun hg => ?_⟩ <;> simp at hg
        first | exact trivial | exact rfl
      · rintro ρ w1 hw hcst hfn hk
        clear hw
        simp only [known, List.getD_cons_zero, List.getD_cons_succ, Nat.reduceAdd] at hk
        simp only [List.getD_cons_zero, List.getD_cons_succ, Nat.reduceAdd, flowAt]
        go_simp
        exact ⟨Ext.refl _, by first | rfl | trivial⟩
      · rintro ρ w1 hw hcst hfn hk
        clear hw
        simp only [known, List.getD_cons_zero, List.getD_cons_succ, Nat.reduceAdd] at hk
        simp only [List.getD_cons_zero, List.getD_cons_succ, Nat.reduceAdd, flowAt]
        go_simp
        exact ⟨Ext.refl _, by first | rfl | trivial⟩
      · rintro ρ w1 hw hcst hfn hk
        clear hw
        simp only [known, List.getD_cons_zero, List.getD_cons_succ, Nat.reduceAdd] at hk
        simp only [List.getD_cons_zero, List.getD_cons_succ, Nat.reduceAdd, flowAt]
        rintro vg rfl
        refine ⟨fun hg => ?_, fun hg => ?_⟩ <;> simp at hg
        first | exact trivial | exact rfl
      · rintro ρ w1 hw hcst hfn hk
        clear hw
        simp only [known, List.getD_cons_zero, List.getD_cons_succ, Nat.reduceAdd] at hk
        simp only [List.getD_cons_zero, List.getD_cons_succ, Nat.reduceAdd, flowAt]
        rintro vg rfl
        refine ⟨fun hg => ?_, fun hg => ?_⟩ <;> simp at hg
        first | exact trivial | exact rfl
      · rintro ρ w1 hw hcst hfn hk
        clear hw
        simp only [known, List.getD_cons_zero, List.getD_cons_succ, Nat.reduceAdd] at hk
        simp only [List.getD_cons_zero, List.getD_cons_succ, Nat.reduceAdd, flowAt]
        rintro vg rfl
        refine ⟨fun hg => ?_, fun hg => ?_⟩ <;> simp at hg
        first | exact trivial | exact rfl
      · rintro ρ w1 hw hcst hfn hk
        clear hw
        simp only [known, List.getD_cons_zero, List.getD_cons_succ, Nat.reduceAdd] at hk
        simp only [List.getD_cons_zero, List.getD_cons_succ, Nat.reduceAdd, flowAt]
        rintro vg rfl
        refine ⟨fun hg => ?_, fun hg => ?_⟩ <;> simp at hg
        first | exact trivial | exact rfl
      · rintro ρ w1 hw hcst hfn hk
        clear hw
        simp only [known, List.getD_cons_zero, List.getD_cons_succ, Nat.reduceAdd] at hk
        simp only [List.getD_cons_zero, List.getD_cons_succ, Nat.reduceAdd, flowAt]
        rintro vg rfl
        refine ⟨fun hg => ?_, fun hg => ?_⟩ <;> simp at hg
        first | exact trivial | exact rfl
      · rintro ρ w1 hw hcst hfn hk
        clear hw
        simp only [known, List.getD_cons_zero, List.getD_cons_succ, Nat.reduceAdd] at hk
        simp only [List.getD_cons_zero, List.getD_cons_succ, Nat.reduceAdd, flowAt]
        rintro vg rfl
        refine ⟨fun hg => ?_, fun hg => ?_⟩ <;> simp at hg
        first | exact trivial | exact rfl
      · rintro ρ w1 hw hcst hfn hk
        clear hw
        simp only [known, List.getD_cons_zero, List.getD_cons_succ, Nat.reduceAdd] at hk
        simp only [List.getD_cons_zero, List.getD_cons_succ, Nat.reduceAdd, flowAt]
        rintro vg rfl
        refine ⟨fun hg => ?_, fun hg => ?_⟩ <;> simp at hg
        first | exact trivial | exact rfl
      · rintro ρ w1 hw hcst hfn hk
        clear hw
        simp only [known, List.getD_cons_zero, List.getD_cons_succ, Nat.reduceAdd] at hk
        simp only [List.getD_cons_zero, List.getD_cons_succ, Nat.reduceAdd, flowAt]
        rintro vg rfl
        refine ⟨fun hg => ?_, fun hg => ?_⟩ <;> simp at hg
        first | exact trivial | exact rfl
      · rintro ρ w1 hw hcst hfn hk
        clear hw
        simp only [known, List.getD_cons_zero, List.getD_cons_succ, Nat.reduceAdd] at hk
        simp only [List.getD_cons_zero, List.getD_cons_succ, Nat.reduceAdd, flowAt]
        rintro vg rfl
        refine ⟨fun hg => ?_, fun hg => ?_⟩ <;> simp at hg
        first | exact trivial | exact rfl
      · rintro ρ w1 hw hcst hfn hk
        clear hw
        simp only [known, List.getD_cons_zero, List.getD_cons_succ, Nat.reduceAdd] at hk
        simp only [List.getD_cons_zero, List.getD_cons_succ, Nat.reduceAdd, flowAt]
        go_simp
        exact ⟨Ext.refl _, by first | rfl | trivial⟩
    intro vs w1 hw hf
    simp only [flowFacts, Nat.reduceAdd] at hf
    obtain ⟨e0, e1, e2, e3, e4, e5, e6, e7, e8, e9, e10, e11, e12, e13, e14, e15, e16, e17, e18, e19, e20, e21, e22, e23, e24, e25, e26, e27, e28, e29, e30, -⟩ := hf
    simp only [List.take_succ_cons, List.take_zero, List.drop_succ_cons, List.drop_zero, putAll, Act.put, Nat.reduceAdd, List.setIfInBounds_toArray, List.set_cons_zero, List.set_cons_succ, e0, e1, e2, e3, e4, e5, e6, e7, e8, e9, e10, e11, e12, e13, e14, e15, e16, e17, e18, e19, e20, e21, e22, e23, e24, e25, e26, e27, e28, e29, e30]
    clear e0 e1 e2 e3 e4 e5 e6 e7 e8 e9 e10 e11 e12 e13 e14 e15 e16 e17 e18 e19 e20 e21 e22 e23 e24 e25 e26 e27 e28 e29 e30
    have hx := (Ext.refl _).drew.trans hw
    clear hw
    go_wp2_with fail
    go_returns
    exact ⟨by rw [HN.out]; rfl, hx⟩
end Go.Proofs.YtabljchbchjjcaaGreatDoor
