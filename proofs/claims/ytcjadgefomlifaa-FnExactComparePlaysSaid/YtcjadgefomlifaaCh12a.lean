/- Plays: how they are compared. No condition. -/
import Derived.Test.YtcjadgefomlifaaLwE
namespace Go.Proofs.Ytcjadgefomlifaa
set_option linter.unusedVariables false
set_option linter.unusedSimpArgs false
open Go Go.RowKit
def cmpI (a b : Int) : Int := if a < b then -1 else if b < a then 1 else 0
def cmpS (p q : ByteArray) : Int := if Op.bytesLess p.toList q.toList then -1 else if p.toList == q.toList then 0 else 1
theorem isNaNS_any (p : ByteArray) (w : World) : Calls Try.prog 50 #[.string p] w (Same (.bool false) w) := by
  go_enter Try.func50, Try.ntmps50
  go_wp2_with fail
  go_returns
  exact ⟨rfl, rfl⟩
theorem isNaNI_any (p : Int) (w : World) : Calls Try.prog 49 #[.int .i64 p] w (Same (.bool false) w) := by
  go_enter Try.func49, Try.ntmps49
  go_wp2_with fail
  go_returns
  exact ⟨rfl, rfl⟩
theorem CompareI_any (p q : Int) (w : World) : Calls Try.prog 26 #[.int .i64 p, .int .i64 q] w (Same (.int .i64 (cmpI p q)) w) := by
  have H : Hid (cmpI p q = if p < q then -1 else if q < p then 1 else 0) := hid rfl
  go_enter Try.func26, Try.ntmps26
  go_wp2_with (go_at_call 49; refine (isNaNI_any _ _).mono ?_; rintro e w' ⟨rfl, rfl⟩)
  all_goals (go_returns; refine ⟨ret_int ?_, rfl⟩; rw [H.out]; first | (simp [*]; done) | (repeat' split) <;> omega)
theorem CompareS_any (p q : ByteArray) (w : World) : Calls Try.prog 27 #[.string p, .string q] w (Same (.int .i64 (cmpS p q)) w) := by
  have H : Hid (cmpS p q = if Op.bytesLess p.toList q.toList then -1 else if p.toList == q.toList then 0 else 1) := hid rfl
  go_enter Try.func27, Try.ntmps27
  go_wp2_with (go_at_call 50; refine (isNaNS_any _ _).mono ?_; rintro e w' ⟨rfl, rfl⟩)
  all_goals (go_returns; refine ⟨ret_int ?_, rfl⟩; rw [H.out]; simp_all)
def orL : List Int → Int
  | [] => 0
  | x :: r => if x = 0 then orL r else x
theorem orL_drop (l : List Int) (k : Nat) (h : k < l.length) (hz : l[k] = 0) : orL (l.drop k) = orL (l.drop (k + 1)) := by
  rw [List.drop_eq_getElem_cons h, orL, if_pos hz]
theorem orL_hit (l : List Int) (k : Nat) (h : k < l.length) (hz : l[k] ≠ 0) : orL (l.drop k) = l[k] := by
  rw [List.drop_eq_getElem_cons h, orL, if_neg hz]
set_option maxHeartbeats 400000 in
theorem OrI_any (b : Nat) (l : List Int) (c : Nat) (w : World) (hl : l.length ≤ 1000) (h : ∀ j (hj : j < l.length), w.cell? ⟨b, j, none⟩ = some (.int .i64 l[j])) :
    Calls Try.prog 25 #[.slice (some ⟨b, 0, none⟩) l.length c] w (Same (.int .i64 (orL l)) w) := by
  have H := hid h
  clear h
  go_enter Try.func25, Try.ntmps25
  go_wp2_with fail
  go_loopw [8] (fun i wr => ∃ k : Nat, k ≤ l.length ∧ i = .int .i64 k ∧ orL l = orL (l.drop k) ∧ wr = w) (fun i _ => l.length - (intOf i).toNat)
  case atStart => exact ⟨0, by omega, rfl, rfl, rfl⟩
  case round =>
    obtain ⟨k, hk, rfl, hor, rfl⟩ := hrel
    by_cases hlt : k < l.length
    · have hc := H.out k hlt
      by_cases hz : l[k] = 0
      · rw [hz] at hc
        have HO := hid (hor.trans (orL_drop l k hlt hz))
        clear hor hz
        go_wp2_with fail
        go_roundw
        case rel => exact ⟨k + 1, by omega, by go_num, HO.out, trivial⟩
        case measure => simp [intOf]; omega
      · have HO := hid (hor.trans (orL_hit l k hlt hz))
        clear hor
        obtain ⟨x, hx⟩ : ∃ x, l[k] = x := ⟨_, rfl⟩
        rw [hx] at hc hz HO
        clear hx
        go_wp2_with fail
        go_returns
        exact ⟨ret_int HO.out.symm, rfl⟩
    · have HO := hid hor
      have : l.drop k = [] := List.drop_eq_nil_of_le (by omega)
      rw [this] at HO
      clear this hor
      go_wp2_with fail
      go_returns
      exact ⟨ret_int (by rw [HO.out]; rfl), rfl⟩
def downC (d e : Bool) : Int := if d = e then 0 else if d then 1 else -1
def cmpP (r c : Int) (d : Bool) (s : ByteArray) (r' c' : Int) (d' : Bool) (s' : ByteArray) : Int := orL [downC d d', cmpI r r', cmpI c c', cmpS s s']
theorem l12Sign_any (p q : Int) (w : World) : Calls Try.prog 48 #[.int .i64 p, .int .i64 q] w (Same (.int .i64 (cmpI p q)) w) := by
  have H : Hid (cmpI p q = if p < q then -1 else if q < p then 1 else 0) := hid rfl
  go_enter Try.func48, Try.ntmps48
  go_wp2_with fail
  all_goals (go_returns; refine ⟨ret_int ?_, rfl⟩; rw [H.out]; first | (simp [*]; done) | (repeat' split) <;> omega)
theorem cmpI_zero {a b : Int} : cmpI a b = 0 ↔ a = b := by
  unfold cmpI
  constructor
  · intro h; split at h
    · omega
    · split at h <;> omega
  · rintro rfl; simp
set_option maxHeartbeats 1000000 in
theorem l12Compare_any (r c : Int) (d : Bool) (s : ByteArray) (r' c' : Int) (d' : Bool) (s' : ByteArray) (w : World) :
    Calls Try.prog 24 #[playV r c d s, playV r' c' d' s'] w (Ret (.int .i64 (cmpP r c d s r' c' d' s')) w) := by
  have H : Hid (cmpP r c d s r' c' d' s' = orL [downC d d', cmpI r r', cmpI c c', cmpS s s']) := hid rfl
  have HS : Hid (cmpS s s' = if Op.bytesLess s.toList s'.toList then -1 else if s.toList == s'.toList then 0 else 1) := hid rfl
  cases d <;> cases d'
  all_goals try (go_enter Try.func24, Try.ntmps24; go_wp2_with fail; go_returns; exact ⟨ret_int (by rw [H.out]; rfl), ((Ext.refl w).alloc _).alloc _⟩)
  all_goals
    by_cases hr : r = r'
    · by_cases hc : c = c'
      · subst hr hc
        go_enter Try.func24, Try.ntmps24
        go_wp2_with fail
        all_goals (go_returns; refine ⟨ret_int ?_, ((Ext.refl w).alloc _).alloc _⟩; rw [H.out, HS.out]; simp_all [orL, downC, cmpI])
      · have HC := hid (show cmpI c c' ≠ 0 from fun h => hc (cmpI_zero.1 h))
        subst hr
        go_enter Try.func24, Try.ntmps24
        go_wp2_with (go_at_call 48; refine (l12Sign_any _ _ _).mono ?_; rintro e w' ⟨rfl, rfl⟩)
        all_goals (go_returns; refine ⟨ret_int ?_, ((Ext.refl w).alloc _).alloc _⟩; rw [H.out]; simp [orL, downC, HC.out, (cmpI_zero (a := r) (b := r)).2 rfl])
    · have HC := hid (show cmpI r r' ≠ 0 from fun h => hr (cmpI_zero.1 h))
      go_enter Try.func24, Try.ntmps24
      go_wp2_with (go_at_call 48; refine (l12Sign_any _ _ _).mono ?_; rintro e w' ⟨rfl, rfl⟩)
      all_goals (go_returns; refine ⟨ret_int ?_, ((Ext.refl w).alloc _).alloc _⟩; rw [H.out]; simp [orL, downC, HC.out])
theorem sComparePlays_any (r c : Int) (d : Bool) (s : ByteArray) (r' c' : Int) (d' : Bool) (s' : ByteArray) (w : World) :
    Calls Try.prog 8 #[playV r c d s, playV r' c' d' s'] w (Ret (.int .i64 (cmpP r c d s r' c' d' s')) w) := by
  go_enter Try.func8, Try.ntmps8
  go_wp2_with fail
  refine (l12Compare_any _ _ _ _ _ _ _ _ _).mono ?_
  rintro e w1 ⟨rfl, hx⟩
  go_wp2_with fail
  go_returns
  exact ⟨rfl, (((Ext.refl w).alloc _).alloc _).trans hx⟩
set_option maxHeartbeats 1000000 in
theorem ComparePlays_any (r c : Int) (d : Bool) (s : ByteArray) (r' c' : Int) (d' : Bool) (s' : ByteArray) (w : World) :
    Calls Try.prog 10 #[playV r c d s, playV r' c' d' s'] w (Ret (.int .i64 (cmpP r c d s r' c' d' s')) w) := by
  obtain ⟨x, HX⟩ : ∃ x, Hid (x = downC d d') := ⟨_, hid rfl⟩
  have H : Hid (cmpP r c d s r' c' d' s' = orL [x, cmpI r r', cmpI c c', cmpS s s']) := hid (by rw [HX.out]; rfl)
  cases d <;> cases d'
  all_goals
    go_enter Try.func10, Try.ntmps10
    go_wp2_with fail
    refine wp_region_flow_at (C := Ext) 16 [fun v _ => v = .int .i64 x, fun v _ => v = .pointer (some ⟨w.heap.size, 0, none⟩), fun v _ => v = .int .i64 r, fun v _ => v = .pointer (some ⟨(w.heap.size + 1), 0, none⟩), fun v _ => v = .int .i64 r', fun v _ => v = .int .i64 (cmpI r r'), fun v _ => v = .pointer (some ⟨w.heap.size, 1, none⟩), fun v _ => v = .int .i64 c, fun v _ => v = .pointer (some ⟨(w.heap.size + 1), 1, none⟩), fun v _ => v = .int .i64 c', fun v _ => v = .int .i64 (cmpI c c'), fun v _ => v = .pointer (some ⟨w.heap.size, 3, none⟩), fun v _ => v = .string s, fun v _ => v = .pointer (some ⟨(w.heap.size + 1), 3, none⟩), fun v _ => v = .string s', fun v _ => v = .int .i64 (cmpS s s')]
      [[(5, none)], [(2, none)], [(14, some 1)], [(3, none)], [(16, some 3)], [(15, some 2), (17, some 4)], [(2, none)], [(19, some 6)], [(3, none)], [(21, some 8)], [(20, some 7), (22, some 9)], [(2, none)], [(24, some 11)], [(3, none)], [(26, some 13)], [(25, some 12), (27, some 14)]] (by kernel_rfl) (by kernel_rfl) Ext.refl (fun _ _ _ => Ext.trans) ?_ ?_ ?_
    · intro F hF
      simp only [List.mem_cons, List.not_mem_nil, or_false] at hF
      rcases hF with rfl | rfl | rfl | rfl | rfl | rfl | rfl | rfl | rfl | rfl | rfl | rfl | rfl | rfl | rfl | rfl <;> exact fun _ _ _ h _ => h
    · refine ⟨?_, ?_, ?_, ?_, ?_, ?_, ?_, ?_, ?_, ?_, ?_, ?_, ?_, ?_, ?_, ?_, trivial⟩
      · rintro ρ w1 hw hcst hfn hk
        simp only [known, List.getD_cons_zero, List.getD_cons_succ, Nat.reduceAdd] at hk
        simp only [List.getD_cons_zero, List.getD_cons_succ, Nat.reduceAdd, flowAt]
        go_simp
        exact ⟨Ext.refl _, by rw [HX.out]; rfl⟩
      · rintro ρ w1 hw hcst hfn hk
        clear hw
        simp only [known, List.getD_cons_zero, List.getD_cons_succ, Nat.reduceAdd] at hk
        simp only [List.getD_cons_zero, List.getD_cons_succ, Nat.reduceAdd, flowAt]
        go_simp
        exact ⟨Ext.refl _, rfl⟩
      · rintro ρ w1 hw hcst hfn hk
        have c0 := hw.cell (b := w.heap.size) (o := 0) (v := .int .i64 r) (by first | (simp [*]; done) | (simp [*, go_sem]; done) | go_cell)
        clear hw
        simp only [known, List.getD_cons_zero, List.getD_cons_succ, Nat.reduceAdd] at hk
        simp only [List.getD_cons_zero, List.getD_cons_succ, Nat.reduceAdd, flowAt]
        go_simp
        exact ⟨Ext.refl _, rfl⟩
      · rintro ρ w1 hw hcst hfn hk
        clear hw
        simp only [known, List.getD_cons_zero, List.getD_cons_succ, Nat.reduceAdd] at hk
        simp only [List.getD_cons_zero, List.getD_cons_succ, Nat.reduceAdd, flowAt]
        go_simp
        exact ⟨Ext.refl _, rfl⟩
      · rintro ρ w1 hw hcst hfn hk
        have c0 := hw.cell (b := (w.heap.size + 1)) (o := 0) (v := .int .i64 r') (by first | (simp [*]; done) | (simp [*, go_sem]; done) | go_cell)
        clear hw
        simp only [known, List.getD_cons_zero, List.getD_cons_succ, Nat.reduceAdd] at hk
        simp only [List.getD_cons_zero, List.getD_cons_succ, Nat.reduceAdd, flowAt]
        go_simp
        exact ⟨Ext.refl _, rfl⟩
      · rintro ρ w1 hw hcst hfn hk
        simp only [known, List.getD_cons_zero, List.getD_cons_succ, Nat.reduceAdd] at hk
        simp only [List.getD_cons_zero, List.getD_cons_succ, Nat.reduceAdd, flowAt]
        go_simp
        exact flow_same (CompareI_any _ _ _)
      · rintro ρ w1 hw hcst hfn hk
        clear hw
        simp only [known, List.getD_cons_zero, List.getD_cons_succ, Nat.reduceAdd] at hk
        simp only [List.getD_cons_zero, List.getD_cons_succ, Nat.reduceAdd, flowAt]
        go_simp
        exact ⟨Ext.refl _, rfl⟩
      · rintro ρ w1 hw hcst hfn hk
        have c0 := hw.cell (b := w.heap.size) (o := 1) (v := .int .i64 c) (by first | (simp [*]; done) | (simp [*, go_sem]; done) | go_cell)
        clear hw
        simp only [known, List.getD_cons_zero, List.getD_cons_succ, Nat.reduceAdd] at hk
        simp only [List.getD_cons_zero, List.getD_cons_succ, Nat.reduceAdd, flowAt]
        go_simp
        exact ⟨Ext.refl _, rfl⟩
      · rintro ρ w1 hw hcst hfn hk
        clear hw
        simp only [known, List.getD_cons_zero, List.getD_cons_succ, Nat.reduceAdd] at hk
        simp only [List.getD_cons_zero, List.getD_cons_succ, Nat.reduceAdd, flowAt]
        go_simp
        exact ⟨Ext.refl _, rfl⟩
      · rintro ρ w1 hw hcst hfn hk
        have c0 := hw.cell (b := (w.heap.size + 1)) (o := 1) (v := .int .i64 c') (by first | (simp [*]; done) | (simp [*, go_sem]; done) | go_cell)
        clear hw
        simp only [known, List.getD_cons_zero, List.getD_cons_succ, Nat.reduceAdd] at hk
        simp only [List.getD_cons_zero, List.getD_cons_succ, Nat.reduceAdd, flowAt]
        go_simp
        exact ⟨Ext.refl _, rfl⟩
      · rintro ρ w1 hw hcst hfn hk
        simp only [known, List.getD_cons_zero, List.getD_cons_succ, Nat.reduceAdd] at hk
        simp only [List.getD_cons_zero, List.getD_cons_succ, Nat.reduceAdd, flowAt]
        go_simp
        exact flow_same (CompareI_any _ _ _)
      · rintro ρ w1 hw hcst hfn hk
        clear hw
        simp only [known, List.getD_cons_zero, List.getD_cons_succ, Nat.reduceAdd] at hk
        simp only [List.getD_cons_zero, List.getD_cons_succ, Nat.reduceAdd, flowAt]
        go_simp
        exact ⟨Ext.refl _, rfl⟩
      · rintro ρ w1 hw hcst hfn hk
        have c0 := hw.cell (b := w.heap.size) (o := 3) (v := .string s) (by first | (simp [*]; done) | (simp [*, go_sem]; done) | go_cell)
        clear hw
        simp only [known, List.getD_cons_zero, List.getD_cons_succ, Nat.reduceAdd] at hk
        simp only [List.getD_cons_zero, List.getD_cons_succ, Nat.reduceAdd, flowAt]
        go_simp
        exact ⟨Ext.refl _, rfl⟩
      · rintro ρ w1 hw hcst hfn hk
        clear hw
        simp only [known, List.getD_cons_zero, List.getD_cons_succ, Nat.reduceAdd] at hk
        simp only [List.getD_cons_zero, List.getD_cons_succ, Nat.reduceAdd, flowAt]
        go_simp
        exact ⟨Ext.refl _, rfl⟩
      · rintro ρ w1 hw hcst hfn hk
        have c0 := hw.cell (b := (w.heap.size + 1)) (o := 3) (v := .string s') (by first | (simp [*]; done) | (simp [*, go_sem]; done) | go_cell)
        clear hw
        simp only [known, List.getD_cons_zero, List.getD_cons_succ, Nat.reduceAdd] at hk
        simp only [List.getD_cons_zero, List.getD_cons_succ, Nat.reduceAdd, flowAt]
        go_simp
        exact ⟨Ext.refl _, rfl⟩
      · rintro ρ w1 hw hcst hfn hk
        simp only [known, List.getD_cons_zero, List.getD_cons_succ, Nat.reduceAdd] at hk
        simp only [List.getD_cons_zero, List.getD_cons_succ, Nat.reduceAdd, flowAt]
        go_simp
        exact flow_same (CompareS_any _ _ _)
    intro vs w1 hw hf
    simp only [flowFacts, Nat.reduceAdd] at hf
    obtain ⟨e0, e1, e2, e3, e4, e5, e6, e7, e8, e9, e10, e11, e12, e13, e14, e15, -⟩ := hf
    simp only [List.take_succ_cons, List.take_zero, List.drop_succ_cons, List.drop_zero, putAll, Act.put, Nat.reduceAdd, List.setIfInBounds_toArray, List.set_cons_zero, List.set_cons_succ, e0, e1, e2, e3, e4, e5, e6, e7, e8, e9, e10, e11, e12, e13, e14, e15]
    clear e0 e1 e2 e3 e4 e5 e6 e7 e8 e9 e10 e11 e12 e13 e14 e15
    have hE : Ext w w1 := (((Ext.refl w).alloc _).alloc _).drew.trans hw
    clear hw
    go_wp2_with fail
    refine (OrI_any w1.heap.size [x, cmpI r r', cmpI c c', cmpS s s'] 4 _ (by simp) ?_).mono ?_
    · intro j hj
      simp only [List.length_cons, List.length_nil] at hj
      match j, hj with
      | 0, _ => simp
      | 1, _ => simp
      | 2, _ => simp
      | 3, _ => simp
    · rintro e w2 ⟨rfl, rfl⟩
      go_wp2_with fail
      go_returns
      exact ⟨ret_int H.out.symm, hE.alloc _⟩
end Go.Proofs.Ytcjadgefomlifaa
